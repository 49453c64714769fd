/-
  The program's beam of weights, valid skies, sums and transforms of skies.
-/
import Derived.Test.YtbnfnloaomjjbaaTrans
import Derived.Test.YtbnfnloaomjjbaaUni
namespace Go.Proofs.Ytbnfnloaomjjbaa
open Go.RowKit

theorem trRe_zero (f : Nat → Int) : trRe f (fun _ => 0) = beam f := by
  funext k
  exact sumN_congr fun l _ => by simp [pRe, tRe]
theorem trIm_zero (f : Nat → Int) : trIm f (fun _ => 0) = beamI f := by
  funext k
  exact sumN_congr fun l _ => by simp [pIm, tIm]
/-- Valid skies. -/
def skB (n : Nat) (f : Nat → Int) : Bool := decide (n = 16) && allN n (fun k => inB (-100000) 100000 (f k))
theorem skB_good {f : Nat → Int} (h : ∀ k, k < 16 → -100000 ≤ f k ∧ f k ≤ 100000) : skB 16 f = true := by
  have e := allN_mk (n := 16) (p := fun k => inB (-100000) 100000 (f k)) (fun k hk => inB_mk (h k hk).1 (h k hk).2)
  simp [skB, e]

theorem c_inRange (n L : Int) (h0 : 0 ≤ L) (h1 : L ≤ 1000000000000) (w : World) : Calls Try.prog 54 #[.int .i64 n, .int .i64 L] w fun e w' => e = .returned (.bool (inB (-L) L n)) ∧ w = w' := by
  by_cases g1 : -L ≤ n
  · by_cases g2 : n ≤ L
    · go_enter Try.func54, Try.ntmps54
      go_wp2
      go_ret
      exact ⟨ret_bool (by simp [inB, g1, g2]), rfl⟩
    · go_enter Try.func54, Try.ntmps54
      go_wp2
      go_ret
      exact ⟨ret_bool (by simp [inB]; omega), rfl⟩
  · go_enter Try.func54, Try.ntmps54
    go_wp2
    go_ret
    exact ⟨ret_bool (by simp [inB]; omega), rfl⟩
theorem c_allInRange (A : Option Addr) (n c : Nat) (f : Nat → Int) (L : Int) (h0 : 0 ≤ L) (h1 : L ≤ 1000000000000) (w : World) (hn : n ≤ 1048576) (h : Rd w w.heap.size A n (fun k => .int .i64 (f k))) :
    Calls Try.prog 48 #[.slice A n c, .int .i64 L] w fun e w' => e = .returned (.bool (allN n (fun k => inB (-L) L (f k)))) ∧ ∃ m, w' = w.drewN m := by
  go_enter Try.func48, Try.ntmps48
  go_wp2
  go_loopw [9] (fun i wr => ∃ k m : Nat, k ≤ n ∧ i = .int .i64 k ∧ wr = w.drewN m ∧ AllTo (fun k => inB (-L) L (f k)) k) (fun i _ => n - (intOf i).toNat)
  case atStart => exact ⟨0, 0, Nat.zero_le _, rfl, rfl, AllTo.zero _⟩
  case round =>
    obtain ⟨k, m, hk, rfl, rfl, ha⟩ := hrel
    have HA := Lib.hid ha
    clear ha
    by_cases hlt : k < n
    · obtain ⟨ad, rfl, _, hc⟩ := h.at_ hlt
      have g1 : w.cell? (ad.add k) = some (.int .i64 (f k)) := hc k hlt
      clear hc h
      by_cases hin : inB (-L) L (f k) = true
      · go_wp2_with (go_at_call 54; refine (c_inRange _ _ h0 h1 _).mono ?_; rintro e w' ⟨rfl, rfl⟩)
        go_roundw
        case rel => exact ⟨k + 1, m, by omega, by go_num, rfl, HA.out.succ hin⟩
        case measure => simp [intOf]; omega
      · have hin' : inB (-L) L (f k) = false := by simpa using hin
        clear hin
        go_wp2_with (go_at_call 54; refine (c_inRange _ _ h0 h1 _).mono ?_; rintro e w' ⟨rfl, rfl⟩)
        go_ret
        exact ⟨ret_bool (allN_bad (p := fun k => inB (-L) L (f k)) hlt hin'), _, rfl⟩
    · go_wp2
      go_ret
      exact ⟨ret_bool (allN_mk fun j hj => HA.out j (by omega)), _, rfl⟩
theorem c_SkyValid (A : Option Addr) (n c : Nat) (f : Nat → Int) (w : World) (hn : n ≤ 1048576) (h : Rd w w.heap.size A n (fun k => .int .i64 (f k))) :
    Calls Try.prog 34 #[.slice A n c] w fun e w' => e = .returned (.bool (skB n f)) ∧ ∃ m, w' = w.drewN m := by
  by_cases hnn : n = 16
  · subst hnn
    go_enter Try.func34, Try.ntmps34
    go_wp2_with (go_at_call 48; refine (c_allInRange _ _ _ f _ (by omega) (by omega) _ (by omega) h).mono ?_; rintro e w' ⟨rfl, m, rfl⟩)
    go_ret
    exact ⟨ret_bool (by simp [skB]), _, rfl⟩
  · have hz : ((n : Int) == 16) = false := by simpa using (by omega : (n : Int) ≠ 16)
    have HN := Lib.hid hnn
    clear hnn
    go_enter Try.func34, Try.ntmps34
    go_wp2_with (go_at_call 48; refine (c_allInRange _ _ _ f _ (by omega) (by omega) _ (by omega) h).mono ?_; rintro e w' ⟨rfl, m, rfl⟩)
    go_ret
    exact ⟨ret_bool (by simp [skB, HN.out]), 0, rfl⟩
theorem c_skyChecked (A : Option Addr) (n c : Nat) (f : Nat → Int) (w : World) (hn : n ≤ 1048576) (h : Rd w w.heap.size A n (fun k => .int .i64 (f k))) (hv : skB n f = true) :
    Calls Try.prog 38 #[.slice A n c] w fun e w' => e = .returned (.tuple #[.slice A n c, .bool true]) ∧ ∃ m, w' = w.drewN m := by
  go_enter Try.func38, Try.ntmps38
  go_wp2_with (go_at_call 34; refine (c_SkyValid _ _ _ f _ (by omega) h).mono ?_; rintro e w' ⟨rfl, m, rfl⟩)
  go_ret2
  exact ⟨rfl, _, rfl⟩
set_option maxHeartbeats 1000000 in
theorem c_WeightBeam (A : Option Addr) (n c : Nat) (f : Nat → Int) (w : World) (hn : n ≤ 1048576) (h : Rd w w.heap.size A n (fun k => .int .i64 (f k))) :
    Calls Try.prog 17 #[.slice A n c] w (Rets 3 w (len16 (wvB n f)) (fun k => .int .i64 (beam f k)) (wvB n f)) := by
  by_cases hv : wvB n f = true
  · obtain ⟨hnn, hok⟩ := wvB_true hv
    subst hnn
    have hf : ∀ k, k < 16 → 0 ≤ f k ∧ f k ≤ 100 := fun k hk => ⟨(wok_bd (hok k hk)).1, (wok_bd (hok k hk)).2.1⟩
    have hsk : skB 16 (beam f) = true := skB_good fun k _ => by
      have h1 := beam_abs (fun k hk => (hf k hk).1) k
      have h2 := sumN_bd (f := f) (M := 100) (n := 16) hf 16 (by omega)
      omega
    have HF := Lib.hid hf
    have HS := Lib.hid hsk
    clear hok hf hsk
    rw [hv]
    go_enter Try.func17, Try.ntmps17
    go_wp2_with fail
    refine (c_WeightValid _ 16 c f _ (by omega) h).mono ?_
    rintro e w1 ⟨rfl, m1, rfl⟩
    rw [hv]
    have h1 : Rd (w.drewN m1) (w.drewN m1).heap.size A 16 (fun k => .int .i64 (f k)) := h
    go_wp2_with fail
    refine (c_realGrid _ 16 c f _ (by omega) h1).mono ?_
    rintro e w2 ⟨A2, c2, rfl, hb2, hm2⟩
    obtain ⟨g2, rfl, hg2, hr2⟩ := hm2 (by omega)
    have B2 : Below w.heap.size w w2 := ⟨hb2.os, hb2.tape, hb2.output, hb2.size, hb2.block⟩
    clear hb2 h1
    go_wp2_with fail
    refine (c_transform g2 c2 f (fun _ => 0) _ (fun k hk => by have := HF.out k hk; omega) (fun k _ => ⟨by decide, by decide⟩) hr2).mono ?_
    rintro e w3 ⟨rfl, hb3, hr3⟩
    rw [trRe_zero] at hr3
    go_wp2_with fail
    refine (c_realParts _ 16 16 _ _ _ (by omega) hr3).mono ?_
    rintro e w4 ⟨A4, c4, rfl, hb4, hm4⟩
    go_wp2_with fail
    refine (c_skyChecked _ 16 c4 _ _ (by omega) hm4.rd HS.out).mono ?_
    rintro e w5 ⟨rfl, m5, rfl⟩
    go_wp2
    go_ret2
    have s2 := B2.size
    have s3 := hb3.size
    exact ⟨_, _, rfl, below_drewN (below_seq (below_seq B2 hb3) hb4) m5, (hm4.less (by omega) : Made _ w.heap.size _ _ _ _)⟩
  · have hv' : wvB n f = false := by simpa using hv
    clear hv
    rw [hv']
    go_enter Try.func17, Try.ntmps17
    go_wp2_with (go_at_call 18; refine (c_WeightValid _ _ _ f _ (by omega) h).mono ?_; rintro e w' ⟨rfl, m0, rfl⟩)
    go_ret2
    exact ⟨_, _, rfl, below_drewN (Below.refl _ _) _, Made.nil _ _ _ _ _⟩
end Go.Proofs.Ytbnfnloaomjjbaa
