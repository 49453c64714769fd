/-
  Drawn fringes that may be resliced: each list has room for what it holds.
-/
import Derived.Test.YtpanefjjghlhiaaFrDrawF
namespace Go.Proofs.Ytpanefjjghlhiaa
open Go.RowKit

theorem Own.cap {w : World} {B n c : Nat} {t : TypeId} {A : Option Addr} {f : Nat → Value} (h : Own w B t (.slice A n c) n f) : n ≤ c := by
  rcases h.2 with ⟨e, e2⟩ | ⟨g, cap, cur, e, _, _, h1, _⟩
  · omega
  · injection e with _ _ e3
    omega
/-- What a drawing function of fringes alone answers, with the rooms. -/
def FrAnsC (M : Nat) (w : World) (e : Ending) (w' : World) : Prop :=
  ∃ a n c V L F, e = .returned (.slice a n c) ∧ n ≤ M ∧ n ≤ c ∧ (∀ r, r < n → L r ≤ 8) ∧ (∀ r, r < n → ∀ A c', V r = .slice A (L r) c' → L r ≤ c') ∧ RdR w' w'.heap.size a n V L F ∧ Below w.heap.size w w'
set_option maxHeartbeats 1000000 in
theorem c_DrawFringeValidC (A : Option Addr) (n c : Nat) (f : Nat → Int) (w : World) (hn : n ≤ 1048576) (hnc : n ≤ c) (h : Code8 w w.heap.size A n f) : Calls Try.prog 5 #[.slice A n c] w (FrAnsC 7 w) := by
  go_enter Try.func5, Try.ntmps5
  go_wp2_with fail
  refine (c_l6Open A n c f _ hn hnc h).mono ?_
  rintro e w0 ⟨g, hg, rfl, r0, b0⟩
  clear h
  go_wp2_with fail
  refine (c_l93Fringe g 0 _ r0 (by omega)).mono ?_
  rintro e w1 ⟨v, p1, rfl, ⟨N, V, L, F, n6, hL, O1, S1⟩, r1, hp1, G1⟩
  have gl := r0.lt
  obtain ⟨a, cc, rfl⟩ := O1.slice
  have HL := Lib.hid hL
  clear hL
  go_wp2_with fail
  refine (c_pick g p1 10 _ r1 (by omega) (by omega) (by omega)).mono ?_
  rintro e w2 ⟨x2, hx2, rfl, r2, o2⟩
  have G2 := Grow.of_only o2
  have O2 := O1.grow G2 gl
  have S2 := S1.grow_ G2 gl
  have B2 := b0.trans ((G1.trans G2).below hg b0.size)
  have s2 : w0.heap.size ≤ w2.heap.size := Nat.le_trans G1.size G2.size
  clear o2 O1 S1
  by_cases h2 : x2 = 0
  · subst h2
    have R3 : Row (w2.alloc (.cells #[.int .i64 1, .int .i64 2, .int .i64 3] 3)) w2.heap.size 3 3 (fun i => .int .i64 (if i = 0 then 1 else if i = 1 then 2 else 3)) := ⟨_, heap_alloc_new w2 _, fun i hi => by
      match i, hi with
      | 0, _ => rfl
      | 1, _ => rfl
      | 2, _ => rfl⟩
    have O3 := O2.alloc (.cells #[.int .i64 1, .int .i64 2, .int .i64 3] 3)
    have S3 := S2.alloc (.cells #[.int .i64 1, .int .i64 2, .int .i64 3] 3)
    have B3 := B2.alloc (Nat.le_trans b0.size s2) (.cells #[.int .i64 1, .int .i64 2, .int .i64 3] 3)
    have O5 : Own (w2.alloc (.cells #[.int .i64 1, .int .i64 2, .int .i64 3] 3)) w0.heap.size 26 (.slice a N cc) N (fun r => if r = N then .slice (some ⟨w2.heap.size, 0, none⟩) 3 3 else V r) := O3.congr fun r hr => by rw [if_neg (by omega)]
    go_wp2_with (at_builtin; go_loud (refine wpList_app1at (w2.alloc (.cells #[.int .i64 1, .int .i64 2, .int .i64 3] 3)) (.slice (some ⟨w2.heap.size, 0, none⟩) 3 3) rfl _ _ 23 rfl w0.heap.size 26 (.slice none 0 0) 24 Try.underlying23 info_ints rfl (by omega) (.slice a N cc) N (fun r => if r = N then .slice (some ⟨w2.heap.size, 0, none⟩) 3 3 else V r) (by rfl) (by exact O5) (by rw [show (w2.alloc (.cells #[.int .i64 1, .int .i64 2, .int .i64 3] 3)).heap.size = w2.heap.size + 1 from by simp]; rfl) (by simp) rfl (by omega) (by simp; omega) ?_; intro v' w4 hown' hb1 hg1 hat1; obtain ⟨A4, c4, rfl⟩ := hown'.slice))
    go_ret
    obtain ⟨A5, c5, e5, M5⟩ := hown'.made
    have R4 := R3.of_block (hg1.block w2.heap.size R3.lt (fun e => O3.ne_row R3 (by decide) e.symm))
    have S4 := S3.keep fun r hr b hb => hg1.block b ((S3.row r hr).lt hb) (fun e => (S3.row r hr).ne_own O3 (by decide) hb e.symm)
    have cap4 := Own.cap hown'
    refine ⟨A4, N + 1, c4, fun r => if r = N then .slice (some ⟨w2.heap.size, 0, none⟩) 3 3 else V r, fun r => if r = N then 3 else L r, fun r i => if r = N then (if i = 0 then 1 else if i = 1 then 2 else 3) else F r i, rfl, by omega, cap4, fun r hr => ?_, fun r hr A9 c9 e9 => ?_, ⟨?_, fun r hr => ?_⟩, B3.trans (hb1.mono b0.size)⟩
    · show (if r = N then 3 else L r) ≤ 8
      split
      · omega
      · exact HL.out r (by omega)
    · by_cases e : r = N
      · simp only [e, if_true] at e9 ⊢
        injection e9 with _ _ e10
        omega
      · simp only [if_neg e] at e9 ⊢
        have h9 := S4.row r (by omega)
        rw [e9] at h9
        exact Own.cap h9
    · injection e5 with e6
      rw [e6]
      exact M5.rd
    · by_cases e : r = N
      · refine ⟨some ⟨w2.heap.size, 0, none⟩, 3, by simp [e], ?_⟩
        simp only [e, if_true]
        exact R4.rd R4.lt
      · simp only [if_neg e]
        obtain ⟨A6, c6, e6, M6⟩ := (S4.row r (by omega)).made
        exact ⟨A6, c6, e6, M6.rd⟩
  · have hz : ((x2 : Int) == 0) = false := by simpa using (by omega : (x2 : Int) ≠ 0)
    have capN := Own.cap O2
    obtain ⟨a', c', e1, hm⟩ := O2.made
    have h3 := MadeR.rd ⟨hm, S2⟩
    have e2 : a = a' := by injection e1
    clear e1 hm
    subst e2
    go_wp2
    go_ret
    exact ⟨a, N, _, V, L, F, rfl, by omega, capN, HL.out, fun r hr A9 c9 e9 => by have h9 := S2.row r hr; rw [e9] at h9; exact Own.cap h9, h3, B2⟩
end Go.Proofs.Ytpanefjjghlhiaa
