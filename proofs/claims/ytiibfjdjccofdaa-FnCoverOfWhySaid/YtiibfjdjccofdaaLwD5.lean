/-
  Laws over drawn arrays: covered cells have a baseline.
-/
import Derived.Test.YtiibfjdjccofdaaLwLib
namespace Go.Proofs.Ytiibfjdjccofdaa
open Go.RowKit Go.Deep

theorem why_true {F : Bool} {X Y : Nat → Int} {m i j k : Nat} (h : (!F || spB 1 X Y m i j k) = true) : (!F || spB 1 X Y m i (j + 1) k) = true := by
  cases F with
  | false => rfl
  | true =>
    simp only [Bool.not_true, Bool.false_or] at h ⊢
    by_cases e : i = j
    · subst e; rw [spB_same]; exact h
    · rw [spB_step _ _ _ _ _ _ _ e, h]; split <;> rfl
theorem why_same {F d : Bool} {X Y : Nat → Int} {m i j k : Nat} (e : i = j) (h : (!F || spB 1 X Y m i j k) = d) : (!F || spB 1 X Y m i (j + 1) k) = d := by
  subst e; rw [spB_same]; exact h
theorem why_hit {F : Bool} {X Y : Nat → Int} {m i j k : Nat} (e : i ≠ j) (hq : cellK 1 X Y i j = k) : (!F || spB 1 X Y m i (j + 1) k) = true := by
  rw [spB_step _ _ _ _ _ _ _ e, if_pos hq.symm, Bool.or_true]
theorem why_miss {F d : Bool} {X Y : Nat → Int} {m i j k : Nat} (e : i ≠ j) (hq : cellK 1 X Y i j ≠ k) (h : (!F || spB 1 X Y m i j k) = d) : (!F || spB 1 X Y m i (j + 1) k) = d := by
  rw [spB_step _ _ _ _ _ _ _ e, if_neg (fun h => hq h.symm)]; exact h
set_option maxHeartbeats 4000000 in
theorem l_FnCoverOfWhy (A : Option Addr) (n c : Nat) (f : Nat → Int) (w : World) (h0 : Rd w w.heap.size A n (fun k => .int .u8 (f k))) (hb : ∀ i, 0 ≤ f i ∧ f i ≤ 255) (hnc : n ≤ c) :
    Calls Try.prog 8 #[.slice A n c] w fun e w' => e = .returned (.bool true) ∧ Below w.heap.size w w' := by
  by_cases hn : n ≤ 1048576
  · go_enter Try.func8, Try.ntmps8
    go_wp2_with fail
    refine (c_DrawCoverOf A n c f _ hn hnc ⟨h0, hb⟩).mono ?_
    rintro e w0 ⟨v, rfl, ⟨b, m, cc, X, Y, hbb, rfl, h1, h6, hcc, hR⟩, B⟩
    have hA : RdA w0 w0.heap.size (some ⟨b, 0, none⟩) m X Y := hR.rd hR.lt
    clear hR h0 hb hbb
    go_wp2_with fail
    refine (c_CoverOf (some ⟨b, 0, none⟩) m cc X Y _ (by omega) hcc hA).mono ?_
    rintro e w1 ⟨A1, c1, rfl, b1, M1⟩
    have hA := hA.step b1
    have B := below_seq B b1
    have D := M1.rd
    go_wp2_with fail
    refine (c_sCoverOf (some ⟨b, 0, none⟩) m cc X Y _ (by omega) hA).mono ?_
    rintro e w2 ⟨A2, c2, rfl, b2, M2⟩
    have hA := hA.step b2
    have D := D.step b2
    have B := below_seq B b2
    have E := M2.rd
    have hl := len16_le (avB X Y m)
    have hqq : (avB X Y m == avB X Y m) = true := by simp
    obtain ⟨ok, hok⟩ : ∃ ok, avB X Y m = ok := ⟨_, rfl⟩
    rw [hok] at D E hl hqq ⊢
    cases ok with
    | true =>
      rw [show len16 true = 16 from rfl] at D E hl ⊢
      go_wp2_with fail
      refine (c_flags_yes _ _ 16 _ _ (trB 1 X Y m) (trB 1 X Y m) _ hl D E (fun _ _ => rfl)).mono ?_
      rintro e w3' ⟨rfl, m3, rfl⟩
      have hA := hA.dr m3
      have D := D.dr m3
      have E := E.dr m3
      have B := below_drewN B m3
      generalize w2.drewN m3 = w3 at hA D E B ⊢
      have hv := hok
      obtain ⟨⟨h2, h7⟩, hXY, -⟩ := avB_true hv
      have HXY := Lib.hid hXY
      clear hXY hok E hqq hl
      have CB := Lib.hid (fun (w' : World) (i j : Nat) (hi : i < m) (hj : j < m) (h : RdA w' w'.heap.size (some ⟨b, 0, none⟩) m X Y) => c_BaseVector ⟨b, 0, none⟩ m cc X Y i j w' hcc hv hi hj h)
      go_wp2
      go_loopw [8] (fun p wr => ∃ k : Nat, k ≤ 16 ∧ p = .int .i64 k ∧ Below w3.heap.size w3 wr) (fun p _ => 16 - (intOf p).toNat)
      case atStart => exact ⟨0, Nat.zero_le _, rfl, Below.refl _ _⟩
      case round =>
        obtain ⟨k, hk, rfl, hbk⟩ := hrel
        by_cases hkt : k < 16
        · obtain ⟨ado, rfl, hado, hco⟩ := D.at_ hkt
          have hk1 := (hbk.cell (p := ado.add k) (by rw [block_add]; exact hado)).trans (hco k hkt)
          have hkz : (k : Int) < 16 := by omega
          obtain ⟨F, hF⟩ : ∃ F, trB 1 X Y m k = F := ⟨_, rfl⟩
          have HF := Lib.hid hF
          rw [hF] at hk1
          clear hF hco
          go_wp2
          go_loopw [9, 10] (fun v p wr => ∃ (i : Nat) (d : Bool), i ≤ m ∧ v = .bool d ∧ (!F || spB 1 X Y m i 0 k) = d ∧ p = .int .i64 i ∧ Below w3.heap.size w3 wr) (fun _ p _ => m - (intOf p).toNat)
          case atStart => exact ⟨0, !F, Nat.zero_le _, rfl, by rw [spB_zero, Bool.or_false], rfl, hbk⟩
          case round =>
            obtain ⟨i, d, hi, rfl, hd, rfl, hbi⟩ := hrel
            have HD := Lib.hid hd
            clear hd
            by_cases hit : i < m
            · have hiz : (i : Int) < (m : Int) := by omega
              go_wp2
              go_loopw [9, 11] (fun v p wr => ∃ (j : Nat) (d : Bool), j ≤ m ∧ v = .bool d ∧ (!F || spB 1 X Y m i j k) = d ∧ p = .int .i64 j ∧ Below w3.heap.size w3 wr) (fun _ p _ => m - (intOf p).toNat)
              case atStart => exact ⟨0, d, Nat.zero_le _, rfl, HD.out, rfl, hbi⟩
              case round =>
                obtain ⟨j, d, hj, rfl, hd, rfl, hbj⟩ := hrel
                have HD := Lib.hid hd
                clear hd
                by_cases hjt : j < m
                · have hjz : (j : Int) < (m : Int) := by omega
                  have hA2 := hA.step hbj
                  obtain ⟨q, hq⟩ : ∃ q, cellK 1 X Y i j = q := ⟨_, rfl⟩
                  have CL := Lib.hid (fun w => c_lcell (X j - X i) (Y j - Y i) q (by rw [← hq, cellK, Int.one_mul, Int.one_mul]) w)
                  have HQ := Lib.hid hq
                  clear hq
                  go_wp2_with fail
                  refine (CB.out wr i j hit hjt hA2).mono ?_
                  rintro e w9 ⟨rfl, hb9⟩
                  have hb8 := below_seq hbj hb9
                  have hs9 := hb8.size
                  clear hA2 hb9
                  cases d with
                  | true =>
                    go_wp2
                    go_roundw
                    case rel => exact ⟨j + 1, true, by omega, rfl, why_true HD.out, by go_num, hb8.alloc hs9 _⟩
                    case measure => simp [intOf]; omega
                  | false =>
                    by_cases hij : i = j
                    · have hne : ((i : Int) == (j : Int)) = true := by simpa using (by omega : (i : Int) = (j : Int))
                      have hne2 : ((i : Int) != (j : Int)) = false := by simpa using (by omega : (i : Int) = (j : Int))
                      have HE := Lib.hid hij
                      clear hij
                      go_wp2
                      go_roundw
                      case rel => exact ⟨j + 1, false, by omega, rfl, why_same HE.out HD.out, by go_num, hb8.alloc hs9 _⟩
                      case measure => simp [intOf]; omega
                    · have hne : ((i : Int) == (j : Int)) = false := by simpa using (by omega : (i : Int) ≠ (j : Int))
                      have hne2 : ((i : Int) != (j : Int)) = true := by simpa using (by omega : (i : Int) ≠ (j : Int))
                      have HE := Lib.hid hij
                      clear hij
                      by_cases hqk : q = k
                      · have hqb : ((q : Int) == (k : Int)) = true := by simpa using (by omega : (q : Int) = (k : Int))
                        have HK := Lib.hid hqk
                        clear hqk
                        go_wp2_with (go_at_call 19; refine (CL.out _).mono ?_; rintro e w' ⟨rfl, rfl⟩)
                        go_roundw
                        case rel => exact ⟨j + 1, true, by omega, rfl, why_hit HE.out (by rw [HQ.out, HK.out]), by go_num, hb8.alloc hs9 _⟩
                        case measure => simp [intOf]; omega
                      · have hqb : ((q : Int) == (k : Int)) = false := by simpa using (by omega : (q : Int) ≠ (k : Int))
                        have HK := Lib.hid hqk
                        clear hqk
                        go_wp2_with (go_at_call 19; refine (CL.out _).mono ?_; rintro e w' ⟨rfl, rfl⟩)
                        go_roundw
                        case rel => exact ⟨j + 1, false, by omega, rfl, why_miss HE.out (by rw [HQ.out]; exact HK.out) HD.out, by go_num, hb8.alloc hs9 _⟩
                        case measure => simp [intOf]; omega
                · have e : j = m := by omega
                  go_wp2
                  go_roundw
                  case rel => exact ⟨i + 1, d, by omega, rfl, by rw [← HD.out, e, spB_next], by go_num, hbj⟩
                  case measure => simp [intOf]; omega
            · have e : i = m := by omega
              have hd1 : d = true := by rw [← HD.out, e, spB_end, HF.out]; cases F <;> rfl
              subst hd1
              go_wp2
              go_roundw
              case rel => exact ⟨k + 1, by omega, by go_num, hbi⟩
              case measure => simp [intOf]; omega
        · go_wp2
          go_ret
          exact ⟨rfl, below_seq B hbk⟩
    | false =>
      rw [show len16 false = 0 from rfl] at D E hl ⊢
      go_wp2_with fail
      refine (c_flags_yes _ _ 0 _ _ (trB 1 X Y m) (trB 1 X Y m) _ hl D E (fun _ _ => rfl)).mono ?_
      rintro e w4' ⟨rfl, m4, rfl⟩
      have D := D.dr m4
      have E := E.dr m4
      have B := below_drewN B m4
      generalize w2.drewN m4 = w4 at D E B ⊢
      go_wp2_with fail
      refine (c_flags_yes _ _ 0 _ _ (trB 1 X Y m) (trB 1 X Y m) _ hl D E (fun _ _ => rfl)).mono ?_
      rintro e w5' ⟨rfl, m5, rfl⟩
      have D := D.dr m5
      have E := E.dr m5
      have B := below_drewN B m5
      generalize w4.drewN m5 = w5 at D E B ⊢
      go_wp2
      go_ret
      exact ⟨rfl, B⟩
  · go_enter Try.func8, Try.ntmps8
    go_wp2
    go_ret
    exact ⟨rfl, Below.refl _ _⟩
end Go.Proofs.Ytiibfjdjccofdaa
