/-
  Contracts: turned fringes (the program's and the reference's).
-/
import Derived.Test.YtpanefjjghlhiaaFrOf
import Derived.Test.YtpanefjjghlhiaaAppS
import Derived.Test.YtpanefjjghlhiaaFrLaw
import Derived.IntWalk
namespace Go.Proofs.Ytpanefjjghlhiaa
open Go.RowKit

theorem c_circle' (n r : Int) (h : n % 4 = r) (w : World) : Calls Try.prog 23 #[.int .i64 n, .int .i64 4] w fun e w' => e = .returned (.int .i64 r) ∧ w = w' := by
  subst h; exact c_circle n w
theorem tn_wrap (f : Nat → Nat → Int) (d r p : Int) (k j : Nat) (m11 : 0 ≤ d * (k : Int)) (m12 : d * (k : Int) ≤ 21) (m21 : 0 ≤ r * (j : Int)) (m22 : r * (j : Int) ≤ 21) (f1 : 0 ≤ f k j) (f2 : f k j ≤ 3) (p1 : 0 ≤ p) (p2 : p ≤ 3) :
    IntKind.i64.wrap (IntKind.i64.wrap (IntKind.i64.wrap (f k j - IntKind.i64.wrap (d * (k : Int))) - IntKind.i64.wrap (r * (j : Int))) - p) % 4 = tnF f d r p k j := by
  unfold tnF
  rw [IntWalk.i64_in (d * (k : Int)) (by omega), IntWalk.i64_in (r * (j : Int)) (by omega), IntWalk.i64_in (f k j - d * (k : Int)) (by omega), IntWalk.i64_in (f k j - d * (k : Int) - r * (j : Int)) (by omega), IntWalk.i64_in (f k j - d * (k : Int) - r * (j : Int) - p) (by omega)]
set_option maxHeartbeats 2000000 in
theorem c_FringeTurn_yes (a : Option Addr) (n l c : Nat) (V : Nat → Value) (L : Nat → Nat) (f : Nat → Nat → Int) (d r p : Int) (w : World) (h : RdR w w.heap.size a n V L f) (hv : fvB n L f = true) (hq : q3 d r p = true) (hl0 : L 0 = l) :
    Calls Try.prog 22 #[.slice a n c, .int .i64 d, .int .i64 r, .int .i64 p] w (RetsR 26 3 w n (fun _ => l) (tnF f d r p) true) := by
  obtain ⟨⟨d1, d2⟩, ⟨r1, r2⟩, p1, p2⟩ := q3_true hq
  obtain ⟨⟨h1, h2⟩, ⟨h3, h4⟩, hrow⟩ := fvB_true hv
  rw [hl0] at h3 h4 hrow
  have HR := Lib.hid hrow
  clear hrow hl0
  have hmk := run_make_row' (P := Try.prog) 23 26 (.slice none 0 0) 24 Try.underlying23 info_ints rfl .i64 .i64 n (by omega) (by omega)
  go_enter Try.func22, Try.ntmps22
  go_wp2_with (first | (go_at_call 6; refine (c_FringeValid a n c V L f w (by omega) h).mono ?_; rintro e w' ⟨rfl, rfl⟩) | (go_at_call 16; refine (c_areQuarters3 d r p w).mono ?_; rintro e w' ⟨rfl, rfl⟩))
  clear hmk
  go_loopw [31] (fun i wr => ∃ k : Nat, k ≤ n ∧ i = .int .i64 k ∧ FrSt w (w.heap.size + 1) n k 0 l (tnF f d r p) wr) (fun i _ => n - (intOf i).toNat)
  case atStart => exact ⟨0, Nat.zero_le _, rfl, FrSt.start _ _ _ _ _⟩
  case round =>
    obtain ⟨k, hk, rfl, S⟩ := hrel
    by_cases hlt : k < n
    · obtain ⟨ad, A, cc, rfl, hab, _, hk1, hA⟩ := h.cell hlt
      obtain ⟨hLk, hqs⟩ := HR.out k hlt
      rw [hLk] at hk1 hA
      have HQ := Lib.hid hqs
      clear hLk hqs h
      have hB0 : Below w.heap.size w wr := by obtain ⟨_, hB, _⟩ := S; exact hB
      have hk2 : wr.cell? (ad.add k) = some (.slice A l cc) := (hB0.cell (by rw [block_add]; exact hab)).trans hk1
      clear hk1 hB0
      go_wp2
      clear hk2
      go_loopw [38] (fun i wr => ∃ j : Nat, j ≤ l ∧ i = .int .i64 j ∧ FrSt w (w.heap.size + 1) n k j l (tnF f d r p) wr) (fun i _ => l - (intOf i).toNat)
      case atStart => exact ⟨0, Nat.zero_le _, rfl, S⟩
      case round =>
        obtain ⟨j, hj, rfl, S1⟩ := hrel
        clear S
        by_cases hjt : j < l
        · obtain ⟨V', hB, hR, hO⟩ := S1
          obtain ⟨ad2, rfl, hab2, hc2⟩ := hA.at_ hjt
          have hj1 : wr.cell? (ad2.add j) = some (.int .i64 (f k j)) := (hB.cell (by rw [block_add]; exact hab2)).trans (hc2 j hjt)
          have o1 := hO.row k hlt
          rw [upTo_self] at o1
          have a1 : wr.cell? ⟨w.heap.size + 1, k, none⟩ = some (V' k) := hR.cell hlt
          have a1' : ∀ o, (wr.alloc o).cell? ⟨w.heap.size + 1, k, none⟩ = some (V' k) := fun o => (hR.alloc o).cell hlt
          have hsz := hB.size
          have m1 := mul38 (k := k) d1 d2 (by omega)
          have m2 := mul38 (k := j) r1 r2 (by omega)
          obtain ⟨m11, m12⟩ := m1
          obtain ⟨m21, m22⟩ := m2
          obtain ⟨f1, f2⟩ := HQ.out j hjt
          have i1 : (k : Int) < (n : Int) := by omega
          clear hc2 hA
          have HX := Lib.hid (tn_wrap f d r p k j m11 m12 m21 m22 f1 f2 p1 p2)
          go_wp2
          go_region_law (first | (go_simp; go_at_call 23; refine (c_circle' _ (tnF f d r p k j) HX.out _).mono ?_; rintro e w' ⟨rfl, rfl⟩) | (refine step_app1 _ _ (.int .i64 (tnF f d r p k j)) rfl (.tmp 48) (.tmp 61) 26 rfl w.heap.size 3 (.int .i64 0) 8 Try.underlying26 info_int rfl (by omega) (V' k) j (fun i => .int .i64 (tnF f d r p k i)) (by rfl) ((o1.alloc _).drew) (by rfl) ((One.new _ _ _).drew) rfl rfl (by omega) (by simp; omega) ?_; intro A' c' w1 hown' hb1 hg1 hat1; have R1 := fr_kept (hR.alloc _).drew (hO.alloc _).drew hlt hg1; have a2 : w1.cell? ⟨w.heap.size + 1, k, none⟩ = some (V' k) := R1.cell hlt; have a3 : w1.frozen? ⟨w.heap.size + 1, k, none⟩ = false := R1.frozen k))
          all_goals
            go_wp2
            go_roundw
            case rel => exact ⟨j + 1, by omega, by go_num, fr_store (below_drew (hB.alloc hB.size _)) (hR.alloc _).drew (hO.alloc _).drew hlt (by omega) hb1 hg1 hown' hat1⟩
            case measure => simp [intOf]; omega
        · have e : j = l := by omega
          rw [e] at S1
          clear e
          go_wp2
          go_roundw
          case rel => exact ⟨k + 1, by omega, by go_num, S1.next⟩
          case measure => simp [intOf]; omega
    · have e : k = n := by omega
      rw [e] at S
      clear e
      obtain ⟨V', hB, hM⟩ := S.made (by omega)
      clear S
      go_wp2
      go_ret2
      exact ⟨_, _, V', rfl, hB, hM⟩
set_option maxHeartbeats 1000000 in
theorem c_FringeTurn_no (a : Option Addr) (n c : Nat) (V : Nat → Value) (L : Nat → Nat) (f : Nat → Nat → Int) (d r p : Int) (w : World) (hn : n ≤ 1048576) (h : RdR w w.heap.size a n V L f) (hv : fvB n L f = false ∨ (fvB n L f = true ∧ q3 d r p = false)) :
    Calls Try.prog 22 #[.slice a n c, .int .i64 d, .int .i64 r, .int .i64 p] w fun e w' => e = .returned (.tuple #[.slice none 0 0, .bool false]) ∧ Below w.heap.size w w' := by
  have C := Lib.hid (c_FringeValid a n c V L f w hn h)
  clear h
  rcases hv with hv | ⟨hv, hq⟩
  · go_enter Try.func22, Try.ntmps22
    go_wp2_with (first | (go_at_call 6; refine C.out.mono ?_; rintro e w' ⟨rfl, rfl⟩))
    go_ret2
    exact ⟨rfl, Below.refl _ _⟩
  · go_enter Try.func22, Try.ntmps22
    go_wp2_with (first | (go_at_call 6; refine C.out.mono ?_; rintro e w' ⟨rfl, rfl⟩) | (go_at_call 16; refine (c_areQuarters3 d r p w).mono ?_; rintro e w' ⟨rfl, rfl⟩))
    go_ret2
    exact ⟨rfl, (Below.refl _ _).alloc (Nat.le_refl _) _⟩
theorem tn_no {n : Nat} {L : Nat → Nat} {f : Nat → Nat → Int} {d r p : Int} (h : ¬ tnOk n L f d r p = true) : fvB n L f = false ∨ (fvB n L f = true ∧ q3 d r p = false) := by
  by_cases hv : fvB n L f = true
  · refine .inr ⟨hv, ?_⟩
    by_cases hq : q3 d r p = true
    · exact absurd (by simp [tnOk, hv, hq]) h
    · simpa using hq
  · exact .inl (by simpa using hv)
theorem c_FringeTurn (a : Option Addr) (n c : Nat) (V : Nat → Value) (L : Nat → Nat) (f : Nat → Nat → Int) (d r p : Int) (w : World) (hn : n ≤ 1048576) (h : RdR w w.heap.size a n V L f) :
    Calls Try.prog 22 #[.slice a n c, .int .i64 d, .int .i64 r, .int .i64 p] w (RetsR 26 3 w (many (tnOk n L f d r p) n) (fun _ => L 0) (tnF f d r p) (tnOk n L f d r p)) := by
  by_cases ht : tnOk n L f d r p = true
  · obtain ⟨hv, hq⟩ := tnOk_true ht
    rw [ht]
    exact c_FringeTurn_yes a n (L 0) c V L f d r p w h hv hq rfl
  · have ht' : tnOk n L f d r p = false := by simpa using ht
    rw [ht']
    refine (c_FringeTurn_no a n c V L f d r p w hn h (tn_no ht)).mono ?_
    rintro e w' ⟨rfl, hb⟩
    exact ⟨_, _, fun _ => .slice none 0 0, rfl, hb, MadeR.nil _ _ _ _ _ _ _ _⟩
end Go.Proofs.Ytpanefjjghlhiaa
