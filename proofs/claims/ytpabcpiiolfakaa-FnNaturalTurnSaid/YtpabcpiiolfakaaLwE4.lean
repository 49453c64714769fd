/-
  Laws over drawn arrays: natural weights.
-/
import Derived.Test.YtpabcpiiolfakaaLwE3
import Derived.Test.YtpabcpiiolfakaaNat
namespace Go.Proofs.Ytpabcpiiolfakaa
open Go.RowKit Go.Deep

theorem sumc {f g : Nat → Int} : ∀ n, (∀ k, k < n → f k = g k) → sumN f n = sumN g n
  | 0, _ => rfl
  | n + 1, h => by simp only [sumN]; rw [sumc n fun k hk => h k (by omega), h n (by omega)]
theorem sumn_add (f g : Nat → Int) : ∀ n, sumN (fun k => f k + g k) n = sumN f n + sumN g n
  | 0 => rfl
  | n + 1 => by simp only [sumN]; rw [sumn_add f g n]; omega
theorem sum_nn {f : Nat → Int} : ∀ n, (∀ k, k < n → 0 ≤ f k) → 0 ≤ sumN f n
  | 0, _ => by simp [sumN]
  | n + 1, h => by
    have a := sum_nn n fun k hk => h k (by omega)
    have b := h n (by omega)
    simp only [sumN]; omega
theorem sum_pos {f : Nat → Int} : ∀ n, (∀ k, k < n → 0 ≤ f k) → (0 < sumN f n ↔ ∃ k, k < n ∧ 0 < f k)
  | 0, _ => by simp [sumN]
  | n + 1, h => by
    have a := sum_pos n fun k hk => h k (by omega)
    have c := sum_nn n fun k hk => h k (by omega)
    have b := h n (by omega)
    simp only [sumN]
    constructor
    · intro hs
      by_cases e : 0 < f n
      · exact ⟨n, by omega, e⟩
      · obtain ⟨k, hk, e⟩ := a.1 (by omega)
        exact ⟨k, by omega, e⟩
    · rintro ⟨k, hk, e⟩
      by_cases hkn : k = n
      · subst hkn; omega
      · have := a.2 ⟨k, by omega, e⟩; omega
theorem ifnn (X Y : Nat → Int) (a b c : Nat) : 0 ≤ (if a = b then 0 else oneK X Y a b c) := by have := oneK_bd X Y a b c; split <;> omega
theorem nat_pos (X Y : Nat → Int) (n c : Nat) : 0 < natB X Y n c ↔ trB 1 X Y n c = true := by
  unfold natB
  rw [sum_pos n (fun a _ => sum_nn n fun b _ => ifnn X Y a b c), trB_iff]
  constructor
  · rintro ⟨a, ha, h⟩
    obtain ⟨b, hb, h⟩ := (sum_pos n fun b _ => ifnn X Y a b c).1 h
    by_cases e : a = b
    · rw [if_pos e] at h; omega
    · rw [if_neg e] at h
      refine ⟨a, b, ha, hb, e, ?_⟩
      unfold oneK at h
      by_cases q : cellK 1 X Y a b = c
      · exact q
      · rw [if_neg q] at h; omega
  · rintro ⟨a, b, ha, hb, e, h⟩
    refine ⟨a, ha, (sum_pos n fun b _ => ifnn X Y a b c).2 ⟨b, hb, ?_⟩⟩
    rw [if_neg e, oneK, if_pos h]; omega
theorem nat_bd (X Y : Nat → Int) {n : Nat} (hn : n ≤ 7) (c : Nat) : 0 ≤ natB X Y n c ∧ natB X Y n c ≤ 2 * (n * (n - 1) / 2 : Nat) := by
  have l := prs_len ⟨n, by omega⟩
  simp only at l
  have h := natL_bd X Y c (prs n)
  rw [natL_prs X Y hn c, l] at h
  exact h
theorem opp2 : ∀ k : Fin 16, oppN (oppN k.val) = k.val := by decide
theorem oneK_opp (X Y : Nat → Int) (i j : Nat) {c : Nat} (hc : c < 16) : oneK X Y i j (oppN c) = oneK X Y j i c := by
  unfold oneK
  have h : (cellK 1 X Y i j = oppN c) ↔ (cellK 1 X Y j i = c) := by
    rw [cellK_opp 1 X Y i j]
    constructor
    · intro e; rw [e]; exact opp2 ⟨c, hc⟩
    · intro e; rw [← e]; exact (opp2 ⟨_, cellK_lt 1 X Y i j⟩).symm
  by_cases e : cellK 1 X Y j i = c
  · rw [if_pos e, if_pos (h.2 e)]
  · rw [if_neg e, if_neg (fun q => e (h.1 q))]
theorem natL_opp (X Y : Nat → Int) {c : Nat} (hc : c < 16) : ∀ l : List (Nat × Nat), natL X Y l (oppN c) = natL X Y l c
  | [] => rfl
  | p :: l => by
    have ih := natL_opp X Y hc l
    unfold natL at ih ⊢
    simp only [List.map_cons, List.sum_cons, oneK_opp X Y _ _ hc] at ih ⊢
    omega
theorem nat_opp (X Y : Nat → Int) {n : Nat} (hn : n ≤ 7) {c : Nat} (hc : c < 16) : natB X Y n (oppN c) = natB X Y n c := by
  rw [← natL_prs X Y hn, ← natL_prs X Y hn, natL_opp X Y hc]
theorem nat_wv (X Y : Nat → Int) {n : Nat} (hn : n ≤ 7) : wvB 16 (natB X Y n) = true := wvB_good fun k hk => by
  have b := nat_bd X Y hn k
  have h : n * (n - 1) / 2 ≤ 21 := by
    have h : n = 0 ∨ n = 1 ∨ n = 2 ∨ n = 3 ∨ n = 4 ∨ n = 5 ∨ n = 6 ∨ n = 7 := by omega
    rcases h with rfl | rfl | rfl | rfl | rfl | rfl | rfl | rfl <;> decide
  generalize n * (n - 1) / 2 = bb at b h
  have e := nat_opp X Y hn hk
  have b1 : decide (0 ≤ natB X Y n k) = true := by simpa using b.1
  have b2 : decide (natB X Y n k ≤ 100) = true := by simpa using (by omega : natB X Y n k ≤ 100)
  simp [wok, inB, e, b1, b2]
theorem one_sum (X Y : Nat → Int) (i j : Nat) : sumN (oneK X Y i j) 16 = 1 := by
  have h := cellK_lt 1 X Y i j
  have e : sumN (oneK X Y i j) 16 = sumN (fun c => if cellK 1 X Y i j = c then 1 else 0) 16 := rfl
  rw [e]
  generalize cellK 1 X Y i j = q at h ⊢
  have key : ∀ q : Fin 16, sumN (fun c => if q.val = c then 1 else 0) 16 = 1 := by decide
  exact key ⟨q, h⟩
theorem natL_sum (X Y : Nat → Int) : ∀ l : List (Nat × Nat), sumN (natL X Y l) 16 = 2 * l.length
  | [] => rfl
  | p :: l => by
    have ih := natL_sum X Y l
    have e : sumN (natL X Y (p :: l)) 16 = sumN (fun c => (oneK X Y p.1 p.2 c + oneK X Y p.2 p.1 c) + natL X Y l c) 16 := sumc 16 fun c _ => by simp [natL]
    rw [e, sumn_add, sumn_add, one_sum, one_sum, ih]
    simp only [List.length_cons]
    omega
theorem nat_sum (X Y : Nat → Int) {n : Nat} (hn : n ≤ 7) : wsum 16 (natB X Y n) = 2 * (n * (n - 1) / 2 : Nat) := by
  have l := prs_len ⟨n, by omega⟩
  simp only at l
  rw [wsum, if_pos (nat_wv X Y hn), ← sumc 16 (fun c _ => natL_prs X Y hn c), natL_sum, l]
theorem nat_uni (X Y : Nat → Int) (n c : Nat) : 0 ≤ uni (trB 1 X Y n) c ∧ uni (trB 1 X Y n) c ≤ natB X Y n c := by
  have p := nat_pos X Y n c
  have b : 0 ≤ natB X Y n c := by unfold natB; exact sum_nn n fun a _ => sum_nn n fun b _ => ifnn X Y a b c
  unfold uni
  split
  · rename_i h; have := p.2 h; omega
  · omega
theorem nat_shift (x y : Int) (X Y : Nat → Int) (n c : Nat) : natB (fun i => X i + x) (fun i => Y i + y) n c = natB X Y n c := by
  have e : ∀ i j, cellK 1 (fun i => X i + x) (fun i => Y i + y) i j = cellK 1 X Y i j := fun i j => by
    unfold cellK
    rw [show X j + x - (X i + x) = X j - X i from by omega, show Y j + y - (Y i + y) = Y j - Y i from by omega]
  simp only [natB, oneK, e]
theorem nat_turn (X Y : Nat → Int) (n : Nat) {c : Nat} (hc : c < 16) : natB (fun i => -Y i) X n (rotN c) = natB X Y n c := by
  have o : ∀ i j, oneK (fun i => -Y i) X i j (rotN c) = oneK X Y i j c := fun i j => by
    unfold oneK
    rw [← rot_cellK]
    by_cases e : cellK 1 X Y i j = c
    · rw [if_pos e, if_pos (by rw [e])]
    · rw [if_neg e, if_neg]
      intro h
      have a := torn_rot ⟨_, cellK_lt 1 X Y i j⟩
      have b := torn_rot ⟨c, hc⟩
      simp only at a b
      rw [h, b] at a
      exact e a.symm
  simp only [natB, o]
theorem c_lcell' (x y : Int) (r : Nat) (h : cellN x y = r) (w : World) : Calls Try.prog 46 #[.int .i64 x, .int .i64 y] w fun e w' => e = .returned (.int .i64 (r : Nat)) ∧ w = w' := by
  subst h; exact c_lcellAt x y w
theorem c_ints_yes (A A' : Option Addr) (n c c' : Nat) (f f' : Nat → Int) (w : World) (hn : n ≤ 1048576) (h : Rd w w.heap.size A n (fun k => .int .i64 (f k))) (h' : Rd w w.heap.size A' n (fun k => .int .i64 (f' k))) (e : ∀ k, k < n → f k = f' k) :
    Calls Try.prog 45 #[.slice A n c, .slice A' n c'] w fun e w' => e = .returned (.bool true) ∧ ∃ m, w' = w.drewN m := by
  have C := c_sameInts A A' n n c c' f f' w hn hn h h'
  rwa [eqN_good e] at C
set_option maxHeartbeats 2000000 in
theorem l_FnNatural (A : Option Addr) (n c : Nat) (f : Nat → Int) (w : World) (h0 : Rd w w.heap.size A n (fun k => .int .u8 (f k))) (hb : ∀ i, 0 ≤ f i ∧ f i ≤ 255) (hnc : n ≤ c) :
    Calls Try.prog 15 #[.slice A n c] w fun e w' => e = .returned (.bool true) ∧ Below w.heap.size w w' := by
  by_cases hn : n ≤ 1048576
  · go_enter Try.func15, Try.ntmps15
    go_wp2_with fail
    refine (c_DrawWeightNatural A n c f _ hn hnc ⟨h0, hb⟩).mono ?_
    rintro e w0 ⟨v, rfl, ⟨b, m, cc, X, Y, hbb, rfl, h1, h6, hcc, hR⟩, B⟩
    have hA : RdA w0 w0.heap.size (some ⟨b, 0, none⟩) m X Y := hR.rd hR.lt
    clear hR h0 hb hbb
    go_wp2_with fail
    refine (c_WeightNatural (some ⟨b, 0, none⟩) m cc X Y _ (by omega) hcc hA).mono ?_
    rintro e w1 ⟨A1, c1, rfl, b1, M1⟩
    have hA := hA.step b1
    have B := below_seq B b1
    have D := M1.rd
    go_wp2_with fail
    refine (c_sWeightNatural (some ⟨b, 0, none⟩) m cc X Y _ (by omega) hA).mono ?_
    rintro e w2 ⟨A2, c2, rfl, b2, M2⟩
    have hA := hA.step b2
    have D := D.step b2
    have B := below_seq B b2
    have E := M2.rd
    have hl := len16_le (avB X Y m)
    have hqq : (avB X Y m == avB X Y m) = true := by simp
    obtain ⟨ok, hok⟩ : ∃ ok, avB X Y m = ok := ⟨_, rfl⟩
    rw [hok] at D E hl hqq ⊢
    cases ok with
    | true =>
      rw [show len16 true = 16 from rfl] at D E hl ⊢
      go_wp2_with fail
      refine (c_ints_yes _ _ 16 _ _ (natB X Y m) (natB X Y m) _ hl D E (fun _ _ => rfl)).mono ?_
      rintro e w3' ⟨rfl, m3, rfl⟩
      have hA := hA.dr m3
      have D := D.dr m3
      have E := E.dr m3
      have B := below_drewN B m3
      generalize w2.drewN m3 = w3 at hA D E B ⊢
      have hv := hok
      obtain ⟨⟨h2, h7⟩, hXY, -⟩ := avB_true hv
      have HXY := Lib.hid hXY
      clear hXY hok E hqq hl
      have C := c_CoverOf (some ⟨b, 0, none⟩) m cc X Y w3 (by omega) hcc hA
      rw [hv] at C
      go_wp2_with fail
      refine C.mono ?_
      rintro e w4 ⟨A4, c4, rfl, b4, M4⟩
      have hA := hA.step b4
      have D := D.step b4
      have B := below_seq B b4
      have F := M4.rd
      clear C
      rw [show len16 true = 16 from rfl] at F ⊢
      obtain ⟨ao, rfl, hbo, ho⟩ := D (by omega)
      obtain ⟨ac, rfl, hbc, hcs⟩ := F (by omega)
      have D : Rd w4 w4.heap.size (some ao) 16 (fun k => .int .i64 (natB X Y m k)) := fun _ => ⟨ao, rfl, hbo, ho⟩
      have CV := fun mm => c_WeightValid (some ao) 16 c1 (natB X Y m) (w4.drewN mm) (by omega) (D.dr mm)
      rw [nat_wv X Y (by omega)] at CV
      have CS := fun mm => c_WeightSum (some ao) 16 c1 (natB X Y m) (w4.drewN mm) (by omega) (D.dr mm)
      rw [nat_sum X Y (by omega)] at CS
      have CB := fun w => c_BaseMany m h2 h7 w
      have hb21 : m * (m - 1) / 2 ≤ 21 := base_bd2 h2 h7
      generalize m * (m - 1) / 2 = bb at CS CB hb21
      have CV := Lib.hid CV
      have CS := Lib.hid CS
      have CB := Lib.hid CB
      have HO := Lib.hid ho
      have HC := Lib.hid hcs
      clear ho hcs D hA HXY
      go_wp2
      go_loopw [10] (fun p wr => ∃ k mm : Nat, k ≤ 16 ∧ p = .int .i64 k ∧ wr = w4.drewN mm) (fun p _ => 16 - (intOf p).toNat)
      case atStart => exact ⟨0, 0, by omega, rfl, rfl⟩
      case round =>
        obtain ⟨k, mm, hk, rfl, rfl⟩ := hrel
        by_cases hlt : k < 16
        · have hz : (k : Int) < 16 := by omega
          have q1 : w4.cell? (ao.add k) = some (.int .i64 (natB X Y m k)) := HO.out k hlt
          have q2 : w4.cell? (ac.add k) = some (.bool (trB 1 X Y m k)) := HC.out k hlt
          have hp := nat_pos X Y m k
          generalize natB X Y m k = z at q1 hp
          generalize trB 1 X Y m k = u at q2 hp
          clear HO HC CV CS CB
          have hd : decide (0 < z) = u := by cases u with
            | true => simpa using hp
            | false => simpa using (by simpa using hp : ¬ 0 < z)
          clear hp
          cases u with
          | true =>
            go_wp2
            go_quiet (fail)
            go_wp2
            go_roundw
            case rel => exact ⟨k + 1, _, by omega, by go_num, rfl⟩
            case measure => simp [intOf]; omega
          | false =>
            go_wp2
            go_quiet (fail)
            go_wp2
            go_roundw
            case rel => exact ⟨k + 1, _, by omega, by go_num, rfl⟩
            case measure => simp [intOf]; omega
        · clear HO HC
          go_wp2_with fail
          refine (CV.out mm).mono ?_
          rintro e w' ⟨rfl, m7, rfl⟩
          go_wp2_with fail
          refine (CS.out (mm + m7)).mono ?_
          rintro e w' ⟨rfl, m8, rfl⟩
          go_wp2_with (go_at_call 49; refine (CB.out _).mono ?_; rintro e w' ⟨rfl, rfl⟩)
          go_ret
          exact ⟨rfl, below_drewN B _⟩
    | false =>
      rw [show len16 false = 0 from rfl] at D E hl ⊢
      go_wp2_with fail
      refine (c_ints_yes _ _ 0 _ _ (natB X Y m) (natB X Y m) _ hl D E (fun _ _ => rfl)).mono ?_
      rintro e w5' ⟨rfl, m5, rfl⟩
      have D := D.dr m5
      have E := E.dr m5
      have B := below_drewN B m5
      generalize w2.drewN m5 = w5 at D E B ⊢
      go_wp2_with fail
      refine (c_ints_yes _ _ 0 _ _ (natB X Y m) (natB X Y m) _ hl D E (fun _ _ => rfl)).mono ?_
      rintro e w6' ⟨rfl, m6, rfl⟩
      have D := D.dr m6
      have E := E.dr m6
      have B := below_drewN B m6
      generalize w5.drewN m6 = w6 at D E B ⊢
      go_wp2
      go_ret
      exact ⟨rfl, B⟩
  · go_enter Try.func15, Try.ntmps15
    go_wp2
    go_ret
    exact ⟨rfl, Below.refl _ _⟩
set_option maxHeartbeats 2000000 in
theorem l_FnUniformNatural (A : Option Addr) (n c : Nat) (f : Nat → Int) (w : World) (h0 : Rd w w.heap.size A n (fun k => .int .u8 (f k))) (hb : ∀ i, 0 ≤ f i ∧ f i ≤ 255) (hnc : n ≤ c) :
    Calls Try.prog 16 #[.slice A n c] w fun e w' => e = .returned (.bool true) ∧ Below w.heap.size w w' := by
  by_cases hn : n ≤ 1048576
  · go_enter Try.func16, Try.ntmps16
    go_wp2_with fail
    refine (c_DrawWeightNatural A n c f _ hn hnc ⟨h0, hb⟩).mono ?_
    rintro e w0 ⟨v, rfl, ⟨b, m, cc, X, Y, hbb, rfl, h1, h6, hcc, hR⟩, B⟩
    have hA : RdA w0 w0.heap.size (some ⟨b, 0, none⟩) m X Y := hR.rd hR.lt
    clear hR h0 hb hbb
    go_wp2_with fail
    refine (c_WeightNatural (some ⟨b, 0, none⟩) m cc X Y _ (by omega) hcc hA).mono ?_
    rintro e w1 ⟨A1, c1, rfl, b1, M1⟩
    have hA := hA.step b1
    have B := below_seq B b1
    have D := M1.rd
    go_wp2_with fail
    refine (c_sWeightNatural (some ⟨b, 0, none⟩) m cc X Y _ (by omega) hA).mono ?_
    rintro e w2 ⟨A2, c2, rfl, b2, M2⟩
    have hA := hA.step b2
    have D := D.step b2
    have B := below_seq B b2
    have E := M2.rd
    have hl := len16_le (avB X Y m)
    have hqq : (avB X Y m == avB X Y m) = true := by simp
    obtain ⟨ok, hok⟩ : ∃ ok, avB X Y m = ok := ⟨_, rfl⟩
    rw [hok] at D E hl hqq ⊢
    cases ok with
    | true =>
      rw [show len16 true = 16 from rfl] at D E hl ⊢
      go_wp2_with fail
      refine (c_ints_yes _ _ 16 _ _ (natB X Y m) (natB X Y m) _ hl D E (fun _ _ => rfl)).mono ?_
      rintro e w3' ⟨rfl, m3, rfl⟩
      have hA := hA.dr m3
      have D := D.dr m3
      have E := E.dr m3
      have B := below_drewN B m3
      generalize w2.drewN m3 = w3 at hA D E B ⊢
      have hv := hok
      obtain ⟨⟨h2, h7⟩, hXY, -⟩ := avB_true hv
      have HXY := Lib.hid hXY
      clear hXY hok E hqq hl
      have C := c_CoverOf (some ⟨b, 0, none⟩) m cc X Y w3 (by omega) hcc hA
      rw [hv] at C
      go_wp2_with fail
      refine C.mono ?_
      rintro e w4 ⟨A4, c4, rfl, b4, M4⟩
      have hA := hA.step b4
      have D := D.step b4
      have B := below_seq B b4
      have F := M4.rd
      clear C
      rw [show len16 true = 16 from rfl] at F ⊢
      have CU := c_WeightUniform A4 16 c4 (trB 1 X Y m) w4 (by omega) F
      rw [cv_tr, show len16 true = 16 from rfl] at CU
      go_wp2_with fail
      refine (CU).mono ?_
      rintro e w5 ⟨A5, c5, rfl, b5, M5⟩
      have hA := hA.step b5
      have D := D.step b5
      have F := F.step b5
      have B := below_seq B b5
      have H := M5.rd
      obtain ⟨ao, rfl, hbo, ho⟩ := D (by omega)
      obtain ⟨ac, rfl, hbc, hcs⟩ := H (by omega)
      have CB := fun w => c_BaseMany m h2 h7 w
      have hb21 : m * (m - 1) / 2 ≤ 21 := base_bd2 h2 h7
      have hnb := fun k => nat_bd X Y h7 k
      generalize m * (m - 1) / 2 = bb at CB hb21 hnb
      have hwb : IntKind.i64.wrap (2 * (bb : Int)) = 2 * (bb : Int) := IntWalk.i64_in _ (by omega)
      have CB := Lib.hid CB
      have HO := Lib.hid ho
      have HC := Lib.hid hcs
      have HNB := Lib.hid hnb
      clear ho hcs D F CU hA HXY hnb
      go_wp2
      go_loopw [12] (fun p wr => ∃ k mm : Nat, k ≤ 16 ∧ p = .int .i64 k ∧ wr = w5.drewN mm) (fun p _ => 16 - (intOf p).toNat)
      case atStart => exact ⟨0, 0, by omega, rfl, rfl⟩
      case round =>
        obtain ⟨k, mm, hk, rfl, rfl⟩ := hrel
        by_cases hlt : k < 16
        · have hz : (k : Int) < 16 := by omega
          have q1 : w5.cell? (ao.add k) = some (.int .i64 (natB X Y m k)) := HO.out k hlt
          have q2 : w5.cell? (ac.add k) = some (.int .i64 (uni (trB 1 X Y m) k)) := HC.out k hlt
          have hp := nat_uni X Y m k
          have hb' := HNB.out k
          generalize natB X Y m k = z at q1 hp hb'
          generalize uni (trB 1 X Y m) k = u at q2 hp
          clear HO HC HNB
          have hd : decide (z < u) = false := by simpa using hp.2
          have hd2 : decide (2 * (bb : Int) < z) = false := by simpa using hb'.2
          clear hp hb'
          go_wp2
          go_quiet ((go_at_call 49; exact qsa (CB.out _)))
          go_wp2
          go_roundw
          case rel => exact ⟨k + 1, _, by omega, by go_num, rfl⟩
          case measure => simp [intOf]; omega
        · clear HO HC HNB CB
          go_wp2
          go_ret
          exact ⟨rfl, below_drewN B _⟩
    | false =>
      rw [show len16 false = 0 from rfl] at D E hl ⊢
      go_wp2_with fail
      refine (c_ints_yes _ _ 0 _ _ (natB X Y m) (natB X Y m) _ hl D E (fun _ _ => rfl)).mono ?_
      rintro e w6' ⟨rfl, m6, rfl⟩
      have D := D.dr m6
      have E := E.dr m6
      have B := below_drewN B m6
      generalize w2.drewN m6 = w6 at D E B ⊢
      go_wp2_with fail
      refine (c_ints_yes _ _ 0 _ _ (natB X Y m) (natB X Y m) _ hl D E (fun _ _ => rfl)).mono ?_
      rintro e w7' ⟨rfl, m7, rfl⟩
      have D := D.dr m7
      have E := E.dr m7
      have B := below_drewN B m7
      generalize w6.drewN m7 = w7 at D E B ⊢
      go_wp2
      go_ret
      exact ⟨rfl, B⟩
  · go_enter Try.func16, Try.ntmps16
    go_wp2
    go_ret
    exact ⟨rfl, Below.refl _ _⟩
set_option maxHeartbeats 2000000 in
theorem l_FnNaturalTurn (A : Option Addr) (n c : Nat) (f : Nat → Int) (w : World) (h0 : Rd w w.heap.size A n (fun k => .int .u8 (f k))) (hb : ∀ i, 0 ≤ f i ∧ f i ≤ 255) (hnc : n ≤ c) :
    Calls Try.prog 14 #[.slice A n c] w fun e w' => e = .returned (.bool true) ∧ Below w.heap.size w w' := by
  by_cases hn : n ≤ 1048576
  · go_enter Try.func14, Try.ntmps14
    go_wp2_with fail
    refine (c_DrawWeightNatural A n c f _ hn hnc ⟨h0, hb⟩).mono ?_
    rintro e w0 ⟨v, rfl, ⟨b, m, cc, X, Y, hbb, rfl, h1, h6, hcc, hR⟩, B⟩
    have hA : RdA w0 w0.heap.size (some ⟨b, 0, none⟩) m X Y := hR.rd hR.lt
    clear hR h0 hb hbb
    go_wp2_with fail
    refine (c_WeightNatural (some ⟨b, 0, none⟩) m cc X Y _ (by omega) hcc hA).mono ?_
    rintro e w1 ⟨A1, c1, rfl, b1, M1⟩
    have hA := hA.step b1
    have B := below_seq B b1
    have D := M1.rd
    go_wp2_with fail
    refine (c_sWeightNatural (some ⟨b, 0, none⟩) m cc X Y _ (by omega) hA).mono ?_
    rintro e w2 ⟨A2, c2, rfl, b2, M2⟩
    have hA := hA.step b2
    have D := D.step b2
    have B := below_seq B b2
    have E := M2.rd
    have hl := len16_le (avB X Y m)
    have hqq : (avB X Y m == avB X Y m) = true := by simp
    obtain ⟨ok, hok⟩ : ∃ ok, avB X Y m = ok := ⟨_, rfl⟩
    rw [hok] at D E hl hqq ⊢
    cases ok with
    | true =>
      rw [show len16 true = 16 from rfl] at D E hl ⊢
      go_wp2_with fail
      refine (c_ints_yes _ _ 16 _ _ (natB X Y m) (natB X Y m) _ hl D E (fun _ _ => rfl)).mono ?_
      rintro e w3' ⟨rfl, m3, rfl⟩
      have hA := hA.dr m3
      have D := D.dr m3
      have E := E.dr m3
      have B := below_drewN B m3
      generalize w2.drewN m3 = w3 at hA D E B ⊢
      have hv := hok
      obtain ⟨⟨h2, h7⟩, hXY, -⟩ := avB_true hv
      have HXY := Lib.hid hXY
      clear hXY hok E hqq hl
      go_wp2_with fail
      refine (c_ArrayTurn ⟨b, 0, none⟩ m cc X Y 1 _ hcc hv (by omega) hA).mono ?_
      rintro e w4 ⟨A4, c4, rfl, hc9, b4, M4⟩
      have hA := hA.step b4
      have D := D.step b4
      have B := below_seq B b4
      have F := M4.rd
      have C := c_WeightNatural A4 m c4 (tnX X Y 1).1 (tnX X Y 1).2 w4 (by omega) hc9 F
      rw [av_tn hv 1, show len16 true = 16 from rfl] at C
      go_wp2_with fail
      refine (C).mono ?_
      rintro e w5 ⟨A5, c5, rfl, b5, M5⟩
      have hA := hA.step b5
      have D := D.step b5
      have F := F.step b5
      have B := below_seq B b5
      have H := M5.rd
      obtain ⟨ao, rfl, hbo, ho⟩ := D (by omega)
      have D : Rd w5 w5.heap.size (some ao) 16 (fun k => .int .i64 (natB X Y m k)) := fun _ => ⟨ao, rfl, hbo, ho⟩
      obtain ⟨ac, rfl, hbc, hcs⟩ := H (by omega)
      have HO := Lib.hid ho
      have HC := Lib.hid hcs
      have HD := Lib.hid D
      have HA := Lib.hid hA
      clear ho hcs D F H C hA
      go_wp2
      go_loopw [12] (fun p wr => ∃ k mm : Nat, k ≤ 16 ∧ p = .int .i64 k ∧ wr = w5.drewN mm) (fun p _ => 16 - (intOf p).toNat)
      case atStart => exact ⟨0, 0, by omega, rfl, rfl⟩
      case round =>
        obtain ⟨k, mm, hk, rfl, rfl⟩ := hrel
        by_cases hlt : k < 16
        · have hz : (k : Int) < 16 := by omega
          have q1 : w5.cell? (ao.add k) = some (.int .i64 (natB X Y m k)) := HO.out k hlt
          have q2 : w5.cell? (ac.add (rotN k)) = some (.int .i64 (natB X Y m k)) := by
            rw [← nat_turn X Y m hlt]
            exact HC.out (rotN k) (rotN_lt k)
          have hz2 : ((rotN k : Nat) : Int) < (16 : Int) := by have := rotN_lt k; omega
          generalize natB X Y m k = z at q1 q2
          clear HO HC HA HD
          have hq : (z == z) = true := by simp
          go_wp2
          go_quiet ((go_at_call 46; exact qsa (c_lcell' _ _ (rotN k) rfl _)))
          go_wp2
          go_roundw
          case rel => exact ⟨k + 1, _, by omega, by go_num, rfl⟩
          case measure => simp [intOf]; omega
        · clear HO HC
          have D := HD.out.dr mm
          have hA := HA.out.dr mm
          have B := below_drewN B mm
          clear HD HA
          generalize w5.drewN mm = w7 at D hA B ⊢
          obtain ⟨ok2, hok2⟩ : ∃ ok2, avB (fun i => X i + 1) (fun i => Y i + 2) m = ok2 := ⟨_, rfl⟩
          have C := c_ArrayShift ⟨b, 0, none⟩ m cc X Y 1 2 w7 hcc hv (by omega) (by omega) hA
          rw [hok2] at C
          go_wp2_with fail
          refine C.mono ?_
          rintro e w8 ⟨A8, c8, rfl, hc7, b8, M8⟩
          have D := D.step b8
          have B := below_seq B b8
          have F := M8.rd
          clear C b8 M8 hA
          cases ok2 with
          | true =>
            rw [show lenIf true m = m from rfl] at F hc7 ⊢
            have C := c_WeightNatural A8 m c8 (fun i => X i + 1) (fun i => Y i + 2) w8 (by omega) hc7 F
            rw [hok2, show len16 true = 16 from rfl] at C
            go_wp2_with fail
            refine C.mono ?_
            rintro e w9 ⟨A9, c9, rfl, b9, M9⟩
            have D := D.step b9
            have B := below_seq B b9
            have H := M9.rd
            clear C b9 M9 F
            go_wp2_with fail
            refine (c_ints_yes _ _ 16 _ _ (natB (fun i => X i + 1) (fun i => Y i + 2) m) (natB X Y m) _ (by omega) H D (fun c _ => nat_shift 1 2 X Y m c)).mono ?_
            rintro e w10 ⟨rfl, m10, rfl⟩
            have B := below_drewN B m10
            go_wp2
            go_ret
            exact ⟨rfl, B⟩
          | false =>
            rw [show lenIf false m = 0 from rfl] at F hc7 ⊢
            have C := c_WeightNatural A8 0 c8 (fun i => X i + 1) (fun i => Y i + 2) w8 (by omega) hc7 F
            rw [avB_len (n := 0) (.inl (by omega)), show len16 false = 0 from rfl] at C
            go_wp2_with fail
            refine C.mono ?_
            rintro e w9 ⟨A9, c9, rfl, b9, M9⟩
            have B := below_seq B b9
            go_wp2
            go_ret
            exact ⟨rfl, B⟩
    | false =>
      rw [show len16 false = 0 from rfl] at D E hl ⊢
      go_wp2_with fail
      refine (c_ints_yes _ _ 0 _ _ (natB X Y m) (natB X Y m) _ hl D E (fun _ _ => rfl)).mono ?_
      rintro e w6' ⟨rfl, m6, rfl⟩
      have D := D.dr m6
      have E := E.dr m6
      have B := below_drewN B m6
      generalize w2.drewN m6 = w6 at D E B ⊢
      go_wp2_with fail
      refine (c_ints_yes _ _ 0 _ _ (natB X Y m) (natB X Y m) _ hl D E (fun _ _ => rfl)).mono ?_
      rintro e w7' ⟨rfl, m7, rfl⟩
      have D := D.dr m7
      have E := E.dr m7
      have B := below_drewN B m7
      generalize w6.drewN m7 = w7 at D E B ⊢
      go_wp2
      go_ret
      exact ⟨rfl, B⟩
  · go_enter Try.func14, Try.ntmps14
    go_wp2
    go_ret
    exact ⟨rfl, Below.refl _ _⟩
end Go.Proofs.Ytpabcpiiolfakaa
