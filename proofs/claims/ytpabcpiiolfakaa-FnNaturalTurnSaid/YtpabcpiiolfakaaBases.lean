/-
  Contracts: the vector of two antennas; the iterator over all pairs.
-/
import Derived.Test.YtpabcpiiolfakaaArr
import Derived.RangeFuncNested
import Derived.RangeFuncBound
import Derived.RangeFuncCalls
import Derived.RangeFuncLeaves
import Derived.Shelf.Abstract
import Derived.Shelf.RegionOpen
import Derived.OwnWalkIn
import Derived.TacticsInMore
import Derived.LoopNIn
import Derived.LoopIn
import Derived.Deep.RegionHeld3
namespace Go.Proofs.Ytpabcpiiolfakaa
open Go.RowKit Go.Deep Go.Shelf

theorem below_drew {B : Nat} {a w : World} (h : Below B a w) : Below B a w.drew := ⟨h.os, h.tape, h.output, h.size, h.block⟩
attribute [local go_sem] Oper.semAt_some

theorem c_isMany (n : Nat) (h7 : 2 ≤ n) (h8 : n ≤ 7) (w : World) : Calls Try.prog 73 #[.int .i64 n] w fun e w' => e = .returned (.bool true) ∧ w = w' := by
  go_enter Try.func73, Try.ntmps73
  go_wp2
  go_ret
  exact ⟨ret_bool (by simpa using by omega), rfl⟩
set_option maxHeartbeats 1000000 in
theorem c_vector (ad : Addr) (n c : Nat) (X Y : Nat → Int) (i j : Nat) (w : World) (hi : i < n) (hj : j < n) (bi : (-1000 ≤ X i ∧ X i ≤ 1000) ∧ -1000 ≤ Y i ∧ Y i ≤ 1000) (bj : (-1000 ≤ X j ∧ X j ≤ 1000) ∧ -1000 ≤ Y j ∧ Y j ≤ 1000) (h : RdA w w.heap.size (some ad) n X Y) :
    Calls Try.prog 68 #[.slice (some ad) n c, .int .i64 i, .int .i64 j] w (Gp (X j - X i) (Y j - Y i) w) := by
  obtain ⟨ad', e, hab, hc⟩ := h.at_ hi
  injection e with e
  subst e
  obtain ⟨h1, h2⟩ := hc i hi
  obtain ⟨h3, h4⟩ := hc j hj
  obtain ⟨⟨x1, x2⟩, x3, x4⟩ := bi
  obtain ⟨⟨y1, y2⟩, y3, y4⟩ := bj
  have hs : ∀ k, (ad.add k).block < w.heap.size := fun k => by rw [block_add]; exact hab
  have z1 : (i : Int) < (n : Int) := by omega
  have z2 : (j : Int) < (n : Int) := by omega
  clear hc h
  go_enter Try.func68, Try.ntmps68
  go_wp2
  have hB0 : ∀ o, Below w.heap.size w (w.alloc o) := fun o => (Below.refl _ _).alloc (Nat.le_refl _) _
  go_region_held3 (fun w' => w'.cell? (ad.add (i * 2)) = some (.int .i64 (X i)) ∧ w'.cell? ⟨(ad.add (i * 2)).block, (ad.add (i * 2)).off + 1, none⟩ = some (.int .i64 (Y i)) ∧ w'.cell? (ad.add (j * 2)) = some (.int .i64 (X j)) ∧ w'.cell? ⟨(ad.add (j * 2)).block, (ad.add (j * 2)).off + 1, none⟩ = some (.int .i64 (Y j)))
    (first | exact ⟨((hB0 _).cell (hs _)).trans h1, ((hB0 _).cell (p := ⟨(ad.add (i * 2)).block, (ad.add (i * 2)).off + 1, none⟩) (hs _)).trans h2, ((hB0 _).cell (hs _)).trans h3, ((hB0 _).cell (p := ⟨(ad.add (j * 2)).block, (ad.add (j * 2)).off + 1, none⟩) (hs _)).trans h4⟩)
    (first | fail)
  have e1 : IntKind.i64.wrap (X j - X i) = X j - X i := IntWalk.i64_in _ (by omega)
  have e2 : IntKind.i64.wrap (Y j - Y i) = Y j - Y i := IntWalk.i64_in _ (by omega)
  rw [e1, e2]
  go_wp2
  refine bodyPost_ret (v := .agg #[.int .i64 (X j - X i), .int .i64 (Y j - Y i)]) (by simp [results, Try.results68, go_sem]) rfl ⟨rfl, ?_⟩
  exact below_drew (hB0 _)
theorem c_bases (F : Fence) (n : Nat) (hf : F.fn 67) (hro : F.round = none) (x : Int) (w : World) :
    CallsIn F n Try.prog 67 #[.int .i64 x] w fun e w' => e = .returned (.func (.func 80) #[] #[.pointer (some ⟨w.heap.size, 0, none⟩)]) ∧ w' = w.alloc (.cells #[.int .i64 x] 3) := by
  refine callsIn_of_wp Try.func67 rfl hf ?_ hro
  simp only [Try.ntmps67, List.size_toArray, List.length_cons, List.length_nil, Nat.reduceAdd, Nat.reduceSub, Array.replicate_succ, Array.replicate_zero, List.push_toArray, List.append_toArray, List.nil_append, List.cons_append]
  gi_wp2
  go_ret
  exact ⟨rfl, rfl⟩
/-- A pair of antennas. -/
abbrev Pr (n : Nat) := { p : Nat × Nat // p.1 < p.2 ∧ p.2 < n }
abbrev encP {n : Nat} (p : Pr n) : Array Value := #[.int .i64 (p.1.1 : Nat), .int .i64 (p.1.2 : Nat)]
/-- What pairs have come. -/
def vals {n : Nat} (l : List (Pr n)) : List (Nat × Nat) := l.map Subtype.val
theorem vals_snoc {n : Nat} (l : List (Pr n)) (p : Pr n) : vals (l ++ [p]) = vals l ++ [p.1] := by simp [vals]
theorem vals_len {n : Nat} (l : List (Pr n)) : (vals l).length = l.length := by simp [vals]

/-- What a round must keep: the iterator's own box. -/
def KeepB (Bn : Nat) (W W' : World) : Prop := W'.cell? ⟨Bn, 0, none⟩ = W.cell? ⟨Bn, 0, none⟩
theorem keepB_t {Bn : Nat} {A B C : World} (h : KeepB Bn A B) (k : KeepB Bn B C) : KeepB Bn A C := Eq.trans k h
theorem keepB_b {Bn s : Nat} (hB : Bn < s) (W : World) (l : Nat) (o o' : Obj) (hl : s ≤ l) (_ : W.heap[l]? = some o) (_ : o.isCells = false) (_ : o.isWalk = false) : KeepB Bn W (W.putObj l o') := by
  have hne : l ≠ Bn := by omega
  simp [KeepB, World.cell?, World.putObj, hne]

set_option maxRecDepth 100000 in
set_option maxHeartbeats 2000000 in
theorem bases_in (m n : Nat) (hm : 1 ≤ m) (h2 : 2 ≤ n) (h7 : n ≤ 7) (l Bn : Nat) (J Jx : List (Pr n) → World → Prop)
    (hY : ∀ pre x W, J pre W → pre.length < (prs n).length → YieldAt Fence.wide (m - 1) Try.prog l (encP x) W fun e W' =>
      (e = .returned (.bool true) ∧ J (pre ++ [x]) W' ∧ KeepB Bn W W') ∨ (e = .returned (.bool false) ∧ Jx (pre ++ [x]) W'))
    (W : World) (hBn : W.cell? ⟨Bn, 0, none⟩ = some (.int .i64 (n : Nat))) (h0 : J [] W) :
    CallsIn Fence.wide m Try.prog 80 #[.func (.yield l) #[] #[], .pointer (some ⟨Bn, 0, none⟩)] W fun e W' => (∃ v, e = .returned v) ∧
      ((∃ ys, vals ys = prs n ∧ J ys W') ∨ (∃ pre, True ∧ Jx pre W')) := by
  refine callsIn_of_wp Try.func80 rfl trivial ?_ rfl
  simp only [Try.ntmps80, List.size_toArray, List.length_cons, List.length_nil, Nat.reduceAdd, Nat.reduceSub, Array.replicate_succ, Array.replicate_zero, List.push_toArray, List.append_toArray, List.nil_append, List.cons_append]
  gi_wp2
  gi_loopw [3] (fun p wr => ∃ (i : Nat) (pre : List (Pr n)), i ≤ n ∧ p = .int .i64 i ∧ vals pre = prsTo n i ∧ J pre wr ∧ wr.cell? ⟨Bn, 0, none⟩ = some (.int .i64 (n : Nat))) (fun p _ => n - (intOf p).toNat)
  case atStart => exact ⟨0, [], Nat.zero_le _, rfl, rfl, h0, hBn⟩
  case round =>
    obtain ⟨i, pre, hi, rfl, hpre, hJ, hb⟩ := hrel
    have hn := hb
    by_cases hlt : i < n
    · have hz : (i : Int) < (n : Int) := by omega
      gi_wp2_with (refine ⟨trivial, ?_⟩; gi_at_call 73; refine (callsIn_wide.2 (c_isMany n h2 h7 _)).mono ?_; rintro e w' ⟨rfl, rfl⟩)
      gi_loopw [4] (fun q wr => ∃ (t : Nat) (pre : List (Pr n)), t ≤ n - 1 - i ∧ q = .int .i64 (i + 1 + t : Nat) ∧ vals pre = prsTo n i ++ rowP i t ∧ J pre wr ∧ wr.cell? ⟨Bn, 0, none⟩ = some (.int .i64 (n : Nat))) (fun q _ => n - (intOf q).toNat)
      case atStart => exact ⟨0, pre, Nat.zero_le _, by go_num, by rw [hpre, rowP_zero, List.append_nil], hJ, hb⟩
      case round =>
        obtain ⟨t, pre, ht, rfl, hpre, hJ, hb⟩ := hrel
        have hn := hb
        by_cases hlt2 : i + 1 + t < n
        · obtain ⟨fn, tmps, assign, body, hy, hR⟩ := hY pre ⟨(i, i + 1 + t), by simp only; omega⟩ wr hJ (by
            rw [← vals_len, hpre]; exact prs_room hlt2)
          simp only [encP, Int.natCast_add, Int.cast_ofNat_Int] at hy
          gi_wp2
          refine hR.mono ?_
          rintro e W3 (⟨rfl, hJ3, hk3⟩ | ⟨rfl, hJx3⟩)
          · gi_wp2
            go_roundw
            case rel => exact ⟨t + 1, _, by omega, by go_num, by rw [vals_snoc, hpre, rowP_succ, List.append_assoc], hJ3, Eq.trans hk3 hb⟩
            case measure => simp [intOf]; omega
          · gi_wp2
            refine bodyPost_ret (results_none rfl _ _ _) rfl ?_
            exact ⟨⟨_, rfl⟩, .inr ⟨_, trivial, hJx3⟩⟩
        · have e : t = n - 1 - i := by omega
          gi_wp2
          go_roundw
          case rel => exact ⟨i + 1, pre, by omega, by go_num, by rw [hpre, prsTo_succ, e], hJ, hb⟩
          case measure => simp [intOf]; omega
    · have e : i = n := by omega
      gi_wp2
      refine ⟨trivial, ?_⟩
      gi_wp2
      go_end0
      exact ⟨⟨_, rfl⟩, .inl ⟨_, by rw [hpre, e]; rfl, hJ⟩⟩
/-- The iterator's contract. -/
theorem bases_stops (m n : Nat) (hm : 1 ≤ m) (h2 : 2 ≤ n) (h7 : n ≤ 7) (Bn : Nat) (w : World) (hs : Bn < w.heap.size) (hBn : w.cell? ⟨Bn, 0, none⟩ = some (.int .i64 (n : Nat))) :
    SeqStopsK Fence.wide m Try.prog 80 #[.pointer (some ⟨Bn, 0, none⟩)] (encP (n := n)) (KeepB Bn) (fun ys => vals ys = prs n) (fun _ => True) (prs n).length w := fun l J Jx W hW _ _ hY h0 =>
  bases_in m n hm h2 h7 l Bn J Jx hY W ((hW.cell (p := ⟨Bn, 0, none⟩) hs).trans hBn) h0
end Go.Proofs.Ytpabcpiiolfakaa
