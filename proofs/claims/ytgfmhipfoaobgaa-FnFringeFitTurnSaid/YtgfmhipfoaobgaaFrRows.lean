/-
  Contracts of the functions over lists of lists of integers: sizes, copies, comparisons, marks.
-/
import Derived.Test.YtgfmhipfoaobgaaInts0
import Derived.Test.YtgfmhipfoaobgaaFrMd
namespace Go.Proofs.Ytgfmhipfoaobgaa
open Go.RowKit

/-- What is left of so many. -/
def SzR (n : Nat) (L : Nat → Nat) (w : World) (e : Ending) (w' : World) : Prop :=
  ∃ z : Int, e = .returned (.int .i64 z) ∧ w = w' ∧ (0 ≤ z → n ≤ 1048576 ∧ sumL L n ≤ 1048576)
set_option maxHeartbeats 1000000 in
theorem c_szIntSS (a : Option Addr) (n c : Nat) (V : Nat → Value) (L : Nat → Nat) (f : Nat → Nat → Int) (w : World) (hn : n ≤ maxLen) (hL : ∀ r, r < n → L r ≤ maxLen) (h : RdR w w.heap.size a n V L f) :
    Calls Try.prog 26 #[.slice a n c, .int .i64 1048576] w (SzR n L w) := by
  unfold maxLen at hn
  have HL := Lib.hid hL
  clear hL
  by_cases h1 : n ≤ 1048576
  · go_enter Try.func26, Try.ntmps26
    go_wp2
    go_loop [1, 5] (fun x i => ∃ (k z : Nat), k ≤ n ∧ x = .int .i64 z ∧ i = .int .i64 k ∧ z + n + sumL L k = 1048576) (fun _ i => n - (intOf i).toNat)
    case atStart => exact ⟨0, 1048576 - n, Nat.zero_le _, by go_num, rfl, by simp [sumL]; omega⟩
    case round =>
      obtain ⟨k, z, hk, rfl, rfl, hz⟩ := hrel
      have HZ := Lib.hid hz
      have hz1 : z ≤ 1048576 := by omega
      clear hz
      by_cases hlt : k < n
      · obtain ⟨ad, A, cc, rfl, _, _, hk1, _⟩ := h.cell hlt
        have hl := HL.out k hlt
        clear h
        by_cases q : (L k : Int) ≤ (z : Int)
        · go_wp2_with (go_at_call 49; refine (c_szIntS A (L k) cc z _ (by omega) (by omega) hl).mono ?_; rintro e w' ⟨rfl, rfl⟩; rw [if_pos q])
          go_round
          case rel => exact ⟨k + 1, z - L k, by omega, by go_num, by go_num, by have := HZ.out; simp only [sumL]; omega⟩
          case measure => simp [intOf]; omega
        · go_wp2_with (go_at_call 49; refine (c_szIntS A (L k) cc z _ (by omega) (by omega) hl).mono ?_; rintro e w' ⟨rfl, rfl⟩; rw [if_neg q])
          go_ret
          exact ⟨-1, rfl, rfl, fun h => by omega⟩
      · go_wp2
        go_ret
        refine ⟨z, rfl, rfl, fun _ => ⟨by omega, ?_⟩⟩
        obtain rfl : k = n := by omega
        have := HZ.out
        omega
  · go_enter Try.func26, Try.ntmps26
    go_wp2
    go_ret
    exact ⟨-1, rfl, rfl, fun h => by omega⟩
def TsSt (w : World) (n : Nat) (L : Nat → Nat) (f : Nat → Nat → Int) (k : Nat) (wr : World) : Prop :=
  ∃ G : Nat → Nat, Below w.heap.size w wr ∧ Row wr w.heap.size 32 n (fun r => if r < k then .slice (some ⟨G r, 0, none⟩) (L r) (L r) else .slice none 0 0) ∧
    (∀ r, r < k → w.heap.size < G r ∧ Row wr (G r) 3 (L r) (fun i => .int .i64 (f r i))) ∧ ∀ r s, r < s → s < k → G r < G s
theorem TsSt.start (w : World) (n : Nat) (L : Nat → Nat) (f : Nat → Nat → Int) : TsSt w n L f 0 (w.alloc (.cells (madeCells #[.slice none 0 0] n) 32)) :=
  ⟨fun _ => 0, (Below.refl _ _).alloc (Nat.le_refl _) _, (Row.made w (.slice none 0 0) n 32).congr (fun i _ => by simp), fun r h => absurd h (by omega), fun r s _ h => absurd h (by omega)⟩
theorem TsSt.next {w wr w1 : World} {n k : Nat} {L : Nat → Nat} {f : Nat → Nat → Int} (h : TsSt w n L f k wr) (hb : Below wr.heap.size wr w1) (hr : Row w1 wr.heap.size 3 (L k) (fun i => .int .i64 (f k i))) :
    TsSt w n L f (k + 1) (w1.setCell ⟨w.heap.size, k, none⟩ (.slice (some ⟨wr.heap.size, 0, none⟩) (L k) (L k))) := by
  obtain ⟨G, hB, hR, hG, hM⟩ := h
  have hs := hB.size
  have hlt := hR.lt
  refine ⟨fun r => if r = k then wr.heap.size else G r, (below_seq hB hb).setCell (p := ⟨w.heap.size, k, none⟩) (Nat.le_refl _) _, ?_, fun r hr' => ?_, fun r s hrs hsk => ?_⟩
  · refine ((hR.step hb).set k _).congr fun j _ => ?_
    by_cases e : j = k
    · subst e; simp
    · rw [if_neg e]
      by_cases h2 : j < k
      · rw [if_pos h2, if_pos (by omega)]
        show _ = Value.slice (some ⟨if j = k then wr.heap.size else G j, 0, none⟩) (L j) (L j)
        rw [if_neg e]
      · rw [if_neg h2, if_neg (by omega)]
  · show w.heap.size < (if r = k then wr.heap.size else G r) ∧ Row _ (if r = k then wr.heap.size else G r) _ _ _
    by_cases e : r = k
    · subst e
      rw [if_pos rfl]
      exact ⟨hlt, hr.far (p := ⟨w.heap.size, r, none⟩) (by show wr.heap.size ≠ w.heap.size; omega) _⟩
    · rw [if_neg e]
      have h2 := hG r (by omega)
      exact ⟨h2.1, (h2.2.step hb).far (p := ⟨w.heap.size, k, none⟩) (by show G r ≠ w.heap.size; omega) _⟩
  · show (if r = k then wr.heap.size else G r) < (if s = k then wr.heap.size else G s)
    rw [if_neg (by omega : ¬ r = k)]
    by_cases e : s = k
    · rw [if_pos e]; exact (hG r (by omega)).2.lt
    · rw [if_neg e]; exact hM r s hrs (by omega)
theorem TsSt.md {w wr : World} {n : Nat} {L : Nat → Nat} {f : Nat → Nat → Int} (h : TsSt w n L f n wr) : ∃ V, Below w.heap.size w wr ∧ MdR wr w.heap.size 32 3 (some ⟨w.heap.size, 0, none⟩) n V L f := by
  obtain ⟨G, hB, hR, hG, hM⟩ := h
  refine ⟨_, hB, fun _ => ⟨_, rfl, Nat.le_refl _, hR⟩, fun r hr => ⟨some ⟨G r, 0, none⟩, L r, by simp [hr], fun _ => ⟨_, rfl, by have := (hG r hr).1; omega, (hG r hr).2⟩⟩, fun r s hr hs hrs _ _ k hk => ?_⟩
  simp only [hr, if_true, Value.ownBlock] at hk
  simp only [hs, if_true, Value.ownBlock]
  intro e
  have e1 : G r = k := by simpa using hk
  have e2 : G s = k := by simpa using e
  rcases Nat.lt_or_ge r s with h1 | h1
  · have := hM r s h1 hs; omega
  · have := hM s r (by omega) hr; omega
/-- A copy of lists. -/
def CopyR (w : World) (n : Nat) (L : Nat → Nat) (f : Nat → Nat → Int) (e : Ending) (w' : World) : Prop :=
  ∃ V, e = .returned (.slice (some ⟨w.heap.size, 0, none⟩) n n) ∧ Below w.heap.size w w' ∧ MdR w' w.heap.size 32 3 (some ⟨w.heap.size, 0, none⟩) n V L f
set_option maxHeartbeats 1000000 in
theorem c_toIntSS (a : Option Addr) (n c : Nat) (V : Nat → Value) (L : Nat → Nat) (f : Nat → Nat → Int) (w : World) (hn : n ≤ 1048576) (hL : ∀ r, r < n → L r ≤ 1048576) (h : RdR w w.heap.size a n V L f) :
    Calls Try.prog 28 #[.slice a n c] w (CopyR w n L f) := by
  have HL := Lib.hid hL
  clear hL
  have hmk := run_make_row' (P := Try.prog) 22 32 (.slice none 0 0) 24 Try.underlying22 info_ints rfl .i64 .i64 n (by omega) (by omega)
  go_enter Try.func28, Try.ntmps28
  go_wp2
  clear hmk
  go_loopw [4] (fun i wr => ∃ k : Nat, k ≤ n ∧ i = .int .i64 k ∧ TsSt w n L f k wr) (fun i _ => n - (intOf i).toNat)
  case atStart => exact ⟨0, Nat.zero_le _, rfl, TsSt.start _ _ _ _⟩
  case round =>
    obtain ⟨k, hk, rfl, S⟩ := hrel
    by_cases hlt : k < n
    · obtain ⟨G, hB, hR, _, _⟩ := id S
      obtain ⟨ad, A, cc, rfl, hab, _, hk1, hA⟩ := h.cell hlt
      have h1 : wr.cell? (ad.add k) = some (.slice A (L k) cc) := (hB.cell (by rw [block_add]; exact hab)).trans hk1
      have hA' : Rd wr wr.heap.size A (L k) (fun i => .int .i64 (f k i)) := (hA.below hB).more hB.size
      have hl := HL.out k hlt
      clear h hk1 hA
      go_wp2_with (go_at_call 50; refine (c_toIntS A (L k) cc (f k) _ hl hA').mono ?_; rintro e w1 ⟨rfl, hb1, hr1⟩; have R1 := hR.step hb1; have a2 : w1.cell? ⟨w.heap.size, k, none⟩ = some (.slice none 0 0) := by { simpa using R1.cell hlt }; have a3 : w1.frozen? ⟨w.heap.size, k, none⟩ = false := R1.frozen k)
      go_roundw
      case rel => exact ⟨k + 1, by omega, by go_num, S.next hb1 hr1⟩
      case measure => simp [intOf]; omega
    · obtain rfl : k = n := by omega
      obtain ⟨V', hB, hM⟩ := S.md
      go_wp2
      go_ret
      exact ⟨V', rfl, hB, hM⟩
set_option maxHeartbeats 1000000 in
theorem c_eqIntSS (a a' : Option Addr) (n n' c c' : Nat) (V V' : Nat → Value) (L L' : Nat → Nat) (f f' : Nat → Nat → Int) (w : World) (hn : n ≤ 1048576) (hn' : n' ≤ 1048576) (hL : ∀ r, r < n → L r ≤ 1048576) (hL' : ∀ r, r < n' → L' r ≤ 1048576)
    (h : RdR w w.heap.size a n V L f) (h' : RdR w w.heap.size a' n' V' L' f') :
    Calls Try.prog 23 #[.slice a n c, .slice a' n' c'] w fun e w' => e = .returned (.bool (eqR n n' L L' f f')) ∧ ∃ m, w' = w.drewN m := by
  by_cases hnn : n = n'
  · subst hnn
    have HL := Lib.hid hL
    have HL' := Lib.hid hL'
    clear hL hL'
    go_enter Try.func23, Try.ntmps23
    go_wp2
    go_loopw [5] (fun i wr => ∃ k m : Nat, k ≤ n ∧ i = .int .i64 k ∧ wr = w.drewN m ∧ AllTo (fun r => eqN (L r) (L' r) (f r) (f' r)) k) (fun i _ => n - (intOf i).toNat)
    case atStart => exact ⟨0, 0, Nat.zero_le _, rfl, rfl, AllTo.zero _⟩
    case round =>
      obtain ⟨k, m, hk, rfl, rfl, ha⟩ := hrel
      have HA := Lib.hid ha
      clear ha
      by_cases hlt : k < n
      · obtain ⟨ad, A, cc, rfl, _, _, hk1, hA⟩ := h.cell hlt
        obtain ⟨ad', A', cc', rfl, _, _, hk2, hA'⟩ := h'.cell hlt
        have hl := HL.out k hlt
        have hl' := HL'.out k hlt
        have hz : (k : Int) < (n : Int) := by omega
        clear h h'
        by_cases e : eqN (L k) (L' k) (f k) (f' k) = true
        · have ct : ∀ q, Calls Try.prog 46 #[.slice A (L k) cc, .slice A' (L' k) cc'] (w.drewN q) fun e w' => e = .returned (.bool true) ∧ ∃ m, w' = (w.drewN q).drewN m := fun q => by
            rw [← e]; exact c_eqIntS A A' _ _ cc cc' _ _ _ hl hl' (hA.drewN q) (hA'.drewN q)
          have C := Lib.hid ct
          have HE := Lib.hid e
          clear e ct
          go_wp2
          go_quiet ((go_at_call 46; exact qda (C.out _)))
          go_wp2
          go_roundw
          case rel => exact ⟨k + 1, _, by omega, by go_num, rfl, HA.out.succ HE.out⟩
          case measure => simp [intOf]; omega
        · have e' : eqN (L k) (L' k) (f k) (f' k) = false := by simpa using e
          have ct : ∀ q, Calls Try.prog 46 #[.slice A (L k) cc, .slice A' (L' k) cc'] (w.drewN q) fun e w' => e = .returned (.bool false) ∧ ∃ m, w' = (w.drewN q).drewN m := fun q => by
            rw [← e']; exact c_eqIntS A A' _ _ cc cc' _ _ _ hl hl' (hA.drewN q) (hA'.drewN q)
          have C := Lib.hid ct
          have HE := Lib.hid e'
          clear e e' ct
          go_wp2
          go_quiet ((go_at_call 46; exact qda (C.out _)))
          go_wp2
          go_ret
          exact ⟨ret_bool (eqR_bad hlt HE.out), drew2 _ _ _⟩
      · go_wp2
        go_ret
        exact ⟨ret_bool (eqR_good (fun j hj => HA.out j (by omega))), _, rfl⟩
  · have hz : ((n : Int) == (n' : Int)) = false := by simpa using (by omega : (n : Int) ≠ (n' : Int))
    have HN := Lib.hid hnn
    clear hnn hL hL'
    go_enter Try.func23, Try.ntmps23
    go_wp2
    go_ret
    exact ⟨ret_bool (eqR_len HN.out), 0, rfl⟩
set_option maxHeartbeats 1000000 in
theorem c_sameRows (a a' : Option Addr) (n n' c c' : Nat) (V V' : Nat → Value) (L L' : Nat → Nat) (f f' : Nat → Nat → Int) (w : World) (hn : n ≤ 1048576) (hn' : n' ≤ 1048576) (hL : ∀ r, r < n → L r ≤ 1048576) (hL' : ∀ r, r < n' → L' r ≤ 1048576)
    (h : RdR w w.heap.size a n V L f) (h' : RdR w w.heap.size a' n' V' L' f') :
    Calls Try.prog 32 #[.slice a n c, .slice a' n' c'] w fun e w' => e = .returned (.bool (eqR n n' L L' f f')) ∧ ∃ m, w' = w.drewN m := by
  by_cases hnn : n = n'
  · subst hnn
    have HL := Lib.hid hL
    have HL' := Lib.hid hL'
    clear hL hL'
    go_enter Try.func32, Try.ntmps32
    go_wp2
    go_loopw [5] (fun i wr => ∃ k m : Nat, k ≤ n ∧ i = .int .i64 k ∧ wr = w.drewN m ∧ AllTo (fun r => eqN (L r) (L' r) (f r) (f' r)) k) (fun i _ => n - (intOf i).toNat)
    case atStart => exact ⟨0, 0, Nat.zero_le _, rfl, rfl, AllTo.zero _⟩
    case round =>
      obtain ⟨k, m, hk, rfl, rfl, ha⟩ := hrel
      have HA := Lib.hid ha
      clear ha
      by_cases hlt : k < n
      · obtain ⟨ad, A, cc, rfl, _, _, hk1, hA⟩ := h.cell hlt
        obtain ⟨ad', A', cc', rfl, _, _, hk2, hA'⟩ := h'.cell hlt
        have hl := HL.out k hlt
        have hl' := HL'.out k hlt
        have hz : (k : Int) < (n : Int) := by omega
        clear h h'
        by_cases e : eqN (L k) (L' k) (f k) (f' k) = true
        · have ct : ∀ q, Calls Try.prog 55 #[.slice A (L k) cc, .slice A' (L' k) cc'] (w.drewN q) fun e w' => e = .returned (.bool true) ∧ ∃ m, w' = (w.drewN q).drewN m := fun q => by
            rw [← e]; exact c_sameInts A A' _ _ cc cc' _ _ _ hl hl' (hA.drewN q) (hA'.drewN q)
          have C := Lib.hid ct
          have HE := Lib.hid e
          clear e ct
          go_wp2
          go_quiet ((go_at_call 55; exact qda (C.out _)))
          go_wp2
          go_roundw
          case rel => exact ⟨k + 1, _, by omega, by go_num, rfl, HA.out.succ HE.out⟩
          case measure => simp [intOf]; omega
        · have e' : eqN (L k) (L' k) (f k) (f' k) = false := by simpa using e
          have ct : ∀ q, Calls Try.prog 55 #[.slice A (L k) cc, .slice A' (L' k) cc'] (w.drewN q) fun e w' => e = .returned (.bool false) ∧ ∃ m, w' = (w.drewN q).drewN m := fun q => by
            rw [← e']; exact c_sameInts A A' _ _ cc cc' _ _ _ hl hl' (hA.drewN q) (hA'.drewN q)
          have C := Lib.hid ct
          have HE := Lib.hid e'
          clear e e' ct
          go_wp2
          go_quiet ((go_at_call 55; exact qda (C.out _)))
          go_wp2
          go_ret
          exact ⟨ret_bool (eqR_bad hlt HE.out), drew2 _ _ _⟩
      · go_wp2
        go_ret
        exact ⟨ret_bool (eqR_good (fun j hj => HA.out j (by omega))), _, rfl⟩
  · have hz : ((n : Int) == (n' : Int)) = false := by simpa using (by omega : (n : Int) ≠ (n' : Int))
    have HN := Lib.hid hnn
    clear hnn hL hL'
    go_enter Try.func32, Try.ntmps32
    go_wp2
    go_ret
    exact ⟨ret_bool (eqR_len HN.out), 0, rfl⟩
/-- The marks of a list of lists. -/
def mkF (k0 : Nat) (L : Nat → Nat) (r i : Nat) : Int := ((k0 + sumL L r + i : Nat) : Int)
def MarkR (w : World) (B : Nat) (a : Option Addr) (n k0 : Nat) (V : Nat → Value) (L : Nat → Nat) (e : Ending) (w' : World) : Prop :=
  e = .returned (.int .i64 (k0 + sumL L n : Nat)) ∧ OnlyR w w' n V L ∧ MdR w' B 32 3 a n V L (mkF k0 L)
set_option maxHeartbeats 1000000 in
theorem c_markIntSS (B : Nat) (a : Option Addr) (n c : Nat) (V : Nat → Value) (L : Nat → Nat) (f : Nat → Nat → Int) (w : World) (hn : n ≤ 1048576) (hL : sumL L n ≤ 1048576) (h : MdR w B 32 3 a n V L f) :
    Calls Try.prog 24 #[.slice a n c, .int .i64 1] w (MarkR w B a n 1 V L) := by
  go_enter Try.func24, Try.ntmps24
  go_wp2
  go_loopw [1, 5] (fun q i wr => ∃ k : Nat, k ≤ n ∧ q = .int .i64 (1 + sumL L k : Nat) ∧ i = .int .i64 k ∧ OnlyR w wr n V L ∧ MdR wr B 32 3 a n V L (fun r i => if r < k then mkF 1 L r i else f r i)) (fun _ i _ => n - (intOf i).toNat)
  case atStart => exact ⟨0, Nat.zero_le _, rfl, rfl, OnlyR.refl _ _ _ _, h.congr (fun r _ i _ => by simp)⟩
  case round =>
    obtain ⟨k, hk, rfl, rfl, ho, hm⟩ := hrel
    clear h
    have b1 := sumL_mono L k hk
    by_cases hlt : k < n
    · obtain ⟨A, cc, eV, hmk⟩ := hm.row k hlt
      have b2 := sumL_len hL k hlt
      obtain ⟨g, rfl, hg, hR⟩ := hm.hd (by omega)
      have h1 : wr.cell? ⟨g, k, none⟩ = some (.slice A (L k) cc) := by rw [hR.cell hlt, eV]
      have HV := Lib.hid eV
      clear eV
      go_wp2_with (go_at_call 47; refine (c_markIntS B A (L k) cc (1 + sumL L k) _ wr (by omega) (by omega) hmk).mono ?_; rintro e w1 ⟨rfl, ho1, hm1⟩)
      go_roundw
      case rel =>
        refine ⟨k + 1, by omega, by simp only [sumL]; go_num, by go_num, ho.mark hlt HV.out ho1, hm.mark hlt HV.out (by decide) ho1 (hm1.congr fun i _ => ?_) (fun r hr => ?_)⟩
        · simp [mkF]
        · funext i
          by_cases e : r < k
          · rw [if_pos e, if_pos (by omega)]
          · rw [if_neg e, if_neg (by omega)]
      case measure => simp [intOf]; omega
    · obtain rfl : k = n := by omega
      go_wp2
      go_ret
      exact ⟨rfl, ho, hm.congr fun r hr i _ => by rw [if_pos hr]⟩
set_option maxHeartbeats 1000000 in
theorem c_heldIntSS (a : Option Addr) (n c : Nat) (V : Nat → Value) (L : Nat → Nat) (w : World) (hn : n ≤ 1048576) (hL : sumL L n ≤ 1048576) (h : RdR w w.heap.size a n V L (mkF 1 L)) :
    Calls Try.prog 25 #[.slice a n c, .int .i64 1] w fun e w' => e = .returned (.int .i64 (1 + sumL L n : Nat)) ∧ ∃ m, w' = w.drewN m := by
  go_enter Try.func25, Try.ntmps25
  go_wp2
  go_loopw [1, 5] (fun q i wr => ∃ k m : Nat, k ≤ n ∧ q = .int .i64 (1 + sumL L k : Nat) ∧ i = .int .i64 k ∧ wr = w.drewN m) (fun _ i _ => n - (intOf i).toNat)
  case atStart => exact ⟨0, 0, Nat.zero_le _, rfl, rfl, rfl⟩
  case round =>
    obtain ⟨k, m, hk, rfl, rfl, rfl⟩ := hrel
    have b1 := sumL_mono L k hk
    by_cases hlt : k < n
    · obtain ⟨ad, A, cc, rfl, _, _, hk1, hA⟩ := h.cell hlt
      have b2 := sumL_len hL k hlt
      have hA' : Rd (w.drewN m) (w.drewN m).heap.size A (L k) (fun j => .int .i64 (1 + sumL L k + j : Nat)) := hA
      clear h hA
      go_wp2_with (go_at_call 48; refine (c_heldIntS A (L k) cc (1 + sumL L k) _ (by omega) (by omega) hA').mono ?_; rintro e w' ⟨rfl, m1, rfl⟩)
      go_roundw
      case rel => exact ⟨k + 1, _, by omega, by simp only [sumL]; go_num, by go_num, rfl⟩
      case measure => simp [intOf]; omega
    · obtain rfl : k = n := by omega
      go_wp2
      go_ret
      exact ⟨rfl, _, rfl⟩
end Go.Proofs.Ytgfmhipfoaobgaa
