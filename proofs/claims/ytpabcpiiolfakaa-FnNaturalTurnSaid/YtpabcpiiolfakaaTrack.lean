/-
  Contracts: the cells that an array covers at a factor.
-/
import Derived.Test.YtpabcpiiolfakaaRound
import Derived.Test.YtpabcpiiolfakaaCovers
import Derived.RangeFuncFrom
namespace Go.Proofs.Ytpabcpiiolfakaa
open Go.RowKit Go.Deep Go.Shelf
attribute [local go_sem] Oper.semAt_some

/-- Nothing that w had has turned, but for block g. -/
structure Turn (g : Nat) (w w' : World) : Prop where
  os : w'.os = w.os
  tape : w'.tape = w.tape
  output : w'.output = w.output
  size : w.heap.size ≤ w'.heap.size
  block : ∀ i, i < w.heap.size → i ≠ g → w'.heap[i]? = w.heap[i]?
section
variable {g : Nat} {w w' w'' : World}
theorem Turn.refl (g : Nat) (w : World) : Turn g w w := ⟨rfl, rfl, rfl, Nat.le_refl _, fun _ _ _ => rfl⟩
theorem Turn.trans (h : Turn g w w') (k : Turn g w' w'') : Turn g w w'' :=
  ⟨k.os.trans h.os, k.tape.trans h.tape, k.output.trans h.output, Nat.le_trans h.size k.size, fun i hi hne => (k.block i (Nat.lt_of_lt_of_le hi h.size) hne).trans (h.block i hi hne)⟩
theorem Turn.of_below (h : Below w.heap.size w w') : Turn g w w' := ⟨h.os, h.tape, h.output, h.size, fun i hi _ => h.block i hi⟩
theorem Turn.set (h : Turn g w w') (i : Nat) (u : Value) : Turn g w (w'.setCell ⟨g, i, none⟩ u) :=
  ⟨h.os, h.tape, h.output, by simpa [World.setCell] using h.size, fun k hk hne => (Below.heap_setCell w' ⟨g, i, none⟩ u k (fun e => hne e)).trans (h.block k hk hne)⟩
theorem Turn.drew (h : Turn g w w') : Turn g w w'.drew := ⟨h.os, h.tape, h.output, h.size, h.block⟩
theorem Turn.alloc (h : Turn g w w') (o : Obj) : Turn g w (w'.alloc o) := h.trans (Turn.of_below ((Below.refl _ _).alloc (Nat.le_refl _) _))
theorem Turn.below (h : Turn g w w') {B : Nat} (hB : B ≤ g) (hs : B ≤ w.heap.size) : Below B w w' := ⟨h.os, h.tape, h.output, h.size, fun k hk => h.block k (by omega) (by omega)⟩
theorem Turn.cell (h : Turn g w w') {p : Addr} (hp : p.block < w.heap.size) (hne : p.block ≠ g) : w'.cell? p = w.cell? p := World.cell?_of_block (h.block _ hp hne)
theorem Turn.keeps (h : Turn g w w') {c : Array Value} {t : TypeId} {s : Nat × Nat} (hc : w.heap[g]? = some (.cells c t s)) : KeepsOthers w w' := by
  refine ⟨h.size, fun i o hi ho => ?_⟩
  by_cases e : i = g
  · subst e; rw [hc] at hi; injection hi with hi; subst hi; cases ho
  · exact (h.block i (Array.getElem?_eq_some_iff.1 hi).1 e).trans hi
end
theorem turn_from {β : Type} {B g : Nat} {W0 : World} (hB : W0.heap.size ≤ B) : OwnFrom B (fun (_ : β) W => Turn g W0 W) := by
  intro s W W' row h hg hr
  exact ⟨hg.os.trans h.os, hg.tape.trans h.tape, hg.output.trans h.output, Nat.le_trans h.size hg.size, fun i hi hne =>
    (hg.block i (Nat.lt_of_lt_of_le hi h.size) (fun e => by have := (hr i e.symm).1; omega)).trans (h.block i hi hne)⟩
theorem row_from {β : Type} {B g n : Nat} {t : TypeId} (f : β → Nat → Value) : OwnFrom B (fun s W => Row W g t n (f s)) := by
  intro s W W' row h hg hr
  refine h.of_block ?_
  obtain ⟨c, hb, _⟩ := h
  refine hg.block g (Array.getElem?_eq_some_iff.1 hb).1 (fun e => ?_)
  obtain ⟨o, ho, hn⟩ := (hr g e.symm).2
  rw [hb] at ho
  injection ho with ho
  subst ho
  cases hn
theorem cell_new (W : World) (v : Value) (t : TypeId) : (W.alloc (.cells #[v] t)).cell? ⟨W.heap.size, 0, none⟩ = some v := by
  have h := heap_alloc_new W (.cells #[v] t)
  unfold World.cell?
  rw [show (⟨W.heap.size, 0, none⟩ : Addr).block = W.heap.size from rfl, h]
  rfl
theorem cell_keep {W : World} {a : Addr} {v : Value} (o : Obj) (h : W.cell? a = some v) : (W.alloc o).cell? a = some v := cell_kept h (World.grownBy_alloc W o none) (fun r e => by cases e)
theorem row_putObj {W : World} {g n D : Nat} {t : TypeId} {f : Nat → Value} (h : Row W g t n f) (o : Obj) (hD : D ≠ g) : Row (W.putObj D o) g t n f := h.of_block (World.putObj_heap_other (fun e => hD e.symm))
theorem below_putObj {W : World} {B D : Nat} (o : Obj) (hD : B ≤ D) : Below B W (W.putObj D o) := ⟨rfl, rfl, rfl, by simp, fun k hk => World.putObj_heap_other (by omega)⟩
theorem mul_bd {k d : Int} (hk : 1 ≤ k ∧ k ≤ 100) (hd : -2000 ≤ d ∧ d ≤ 2000) : -200000 ≤ k * d ∧ k * d ≤ 200000 := by
  have h1 := Int.mul_le_mul_of_nonneg_left hd.1 (by omega : 0 ≤ k)
  have h2 := Int.mul_le_mul_of_nonneg_left hd.2 (by omega : 0 ≤ k)
  omega
/-- Whether an array can be scaled. -/
def tsOk (X Y : Nat → Int) (n : Nat) (k : Int) : Bool := avB X Y n && inB 1 100 k
theorem tsOk_true {X Y : Nat → Int} {n : Nat} {k : Int} (h : tsOk X Y n k = true) : avB X Y n = true ∧ 1 ≤ k ∧ k ≤ 100 := by
  simp only [tsOk, Bool.and_eq_true] at h
  exact ⟨h.1, inB_true h.2⟩

theorem cellAt_still (x y : Int) (r : Nat) (h : cellN x y = r) (w : World) : Calls Try.prog 61 #[.int .i64 x, .int .i64 y] w fun e w' => e = .returned (.int .i64 (r : Nat)) ∧ w' = w := by
  subst h; exact (c_cellAt x y w).mono fun _ _ ⟨h1, h2⟩ => ⟨h1, h2.symm⟩
set_option maxRecDepth 100000 in
set_option maxHeartbeats 2000000 in
theorem c_TrackScale_yes (ad : Addr) (n c : Nat) (X Y : Nat → Int) (k : Int) (w : World) (hn : n ≤ 1048576) (hnc : n ≤ c) (hv : avB X Y n = true) (hk1 : 1 ≤ k) (hk2 : k ≤ 100) (h : RdA w w.heap.size (some ad) n X Y) :
    Calls Try.prog 34 #[.slice (some ad) n c, .int .i64 k] w (Rets 4 w 16 (fun c => .bool (trB k X Y n c)) true) := by
  obtain ⟨⟨h2, h7⟩, hXY, _⟩ := avB_true hv
  have hb0 : Below w.heap.size w ((w.alloc (.cells #[.slice (some ad) n c] 23)).alloc (.cells #[.int .i64 k] 3)) := ((Below.refl _ _).alloc (Nat.le_refl _) _).alloc (by simp) _
  have a1 : ((w.alloc (.cells #[.slice (some ad) n c] 23)).alloc (.cells #[.int .i64 k] 3)).cell? ⟨w.heap.size, 0, none⟩ = some (.slice (some ad) n c) := by simp
  have a2 : ((w.alloc (.cells #[.slice (some ad) n c] 23)).alloc (.cells #[.int .i64 k] 3)).cell? ⟨w.heap.size + 1, 0, none⟩ = some (.int .i64 k) := by simp
  have sz : ((w.alloc (.cells #[.slice (some ad) n c] 23)).alloc (.cells #[.int .i64 k] 3)).heap.size = w.heap.size + 2 := by simp
  have hA := h.step hb0
  have C1 := Lib.hid (c_ArrayValid (some ad) n c X Y _ hn hnc hA)
  rw [hv] at C1
  have hmk := mk_bools16
  refine (callsIn_wide (n := 3)).1 ?_
  refine callsIn_of_wp_marks Try.func34 rfl trivial ?_ rfl
  simp only [Try.ntmps34, List.size_toArray, List.length_cons, List.length_nil, Nat.reduceAdd, Nat.reduceSub, Array.replicate_succ, Array.replicate_zero, List.push_toArray, List.append_toArray, List.nil_append, List.cons_append]
  gi_wp2_with (first
    | (refine ⟨trivial, ?_⟩; gi_at_call 54; refine (callsIn_wide.2 C1.out).mono ?_; rintro e w1 ⟨rfl, hb1⟩; have c1 := (hb1.cell (p := ⟨w.heap.size, 0, none⟩) (by rw [sz]; show w.heap.size < _; omega)).trans a1; have c2 := (hb1.cell (p := ⟨w.heap.size + 1, 0, none⟩) (by rw [sz]; show w.heap.size + 1 < _; omega)).trans a2; have c3 : ∀ o o', ((w1.alloc o).alloc o').cell? ⟨w.heap.size, 0, none⟩ = some (.slice (some ad) n c) := fun o o' => ((((Below.refl _ w1).alloc (Nat.le_refl _) o).alloc (by simp) o').cell (p := ⟨w.heap.size, 0, none⟩) (by have := hb1.size; rw [sz] at this; show w.heap.size < _; omega)).trans c1)
    | (refine ⟨trivial, ?_⟩; gi_at_call 67; refine (c_bases Fence.wide _ trivial rfl _ _).mono ?_; rintro e w' ⟨rfl, rfl⟩))
  have hz1 := hb1.size
  rw [sz] at hz1
  obtain ⟨W0, hW0⟩ : ∃ W0, W0 = (((w1.alloc (.cells (madeCells #[.bool false] 16) 4)).alloc (.cells #[.slice (some ⟨w1.heap.size, 0, none⟩) 16 16] 26)).alloc (.cells #[.int .i64 (n : Nat)] 3)) := ⟨_, rfl⟩
  have s0 : W0.heap.size = w1.heap.size + 3 := by rw [hW0]; simp
  have B1 : Below w1.heap.size w1 W0 := by rw [hW0]; exact (((Below.refl _ _).alloc (Nat.le_refl _) _).alloc (by simp) _).alloc (by simp; omega) _
  have B0 : Below w.heap.size w W0 := (hb0.trans (hb1.mono (by omega))).trans (B1.mono (by omega))
  have r0 : Row W0 w1.heap.size 4 16 (fun _ => .bool false) := by rw [hW0]; exact ((Row.made w1 (.bool false) 16 4).alloc _).alloc _
  have l1 := (B1.cell (p := ⟨w.heap.size, 0, none⟩) (by show w.heap.size < _; omega)).trans c1
  have l2 := (B1.cell (p := ⟨w.heap.size + 1, 0, none⟩) (by show w.heap.size + 1 < _; omega)).trans c2
  have l3 : W0.cell? ⟨w1.heap.size + 1, 0, none⟩ = some (.slice (some ⟨w1.heap.size, 0, none⟩) 16 16) := by
    have q := cell_new (w1.alloc (.cells (madeCells #[.bool false] 16) 4)) (.slice (some ⟨w1.heap.size, 0, none⟩) 16 16) 26
    rw [World.size_alloc] at q
    rw [hW0]
    exact cell_keep _ q
  have l4 : W0.cell? ⟨w1.heap.size + 2, 0, none⟩ = some (.int .i64 (n : Nat)) := by
    have q := cell_new ((w1.alloc (.cells (madeCells #[.bool false] 16) 4)).alloc (.cells #[.slice (some ⟨w1.heap.size, 0, none⟩) 16 16] 26)) (.int .i64 (n : Nat)) 3
    rw [World.size_alloc, World.size_alloc] at q
    rw [hW0]
    exact q
  have hA0 := h.below B0
  have HXY := Lib.hid hXY
  rw [← hW0]
  clear hW0 c1 c2 c3 a1 a2 hb0 hb1 hmk C1 hXY h
  refine' wpIn_rangeFunc_ownF rfl (by omega) (gf := 80) (lb := #[.pointer (some ⟨w1.heap.size + 2, 0, none⟩)]) rfl trivial (enters_of Try.func80 (by kernel_rfl) rfl)
    (bases_stops _ n (by omega) h2 h7 (w1.heap.size + 2) W0 (by omega) l4) keepB_t (keepB_b (by omega)) (Below.refl _ _) (fun _ => rfl)
    (fun pre W => Turn w1.heap.size W0 W ∧ Row W w1.heap.size 4 16 (fun c => .bool (covL k X Y (vals pre) c)))
    (fun _ _ _ => False) (OwnFrom.and (turn_from (Nat.le_refl _)) (row_from _)) (fun _ _ _ _ _ hs _ _ => hs) ⟨Turn.refl _ _, r0.congr (fun _ _ => rfl)⟩ _ ?assign ?body ?done ?stop
  case assign =>
    intro l x W K hK
    gi_wp2
    exact hK
  case body =>
    rintro l pre ⟨⟨i, j⟩, hij, hjn⟩ W ⟨hT, hR⟩ _
    simp only at hij hjn
    have c1 := (hT.cell (p := ⟨w.heap.size, 0, none⟩) (by show w.heap.size < _; omega) (by show w.heap.size ≠ _; omega)).trans l1
    have c2 := (hT.cell (p := ⟨w.heap.size + 1, 0, none⟩) (by show w.heap.size + 1 < _; omega) (by show w.heap.size + 1 ≠ _; omega)).trans l2
    have c3 := (hT.cell (p := ⟨w1.heap.size + 1, 0, none⟩) (by show w1.heap.size + 1 < _; omega) (by show w1.heap.size + 1 ≠ _; omega)).trans l3
    obtain ⟨rc, hrc, _⟩ := id hR
    have BW := hT.below (B := w.heap.size) (by omega) (by omega)
    have hA := (hA0.below BW).more (Nat.le_trans B0.size hT.size)
    have bi := HXY.out i (by omega)
    have bj := HXY.out j hjn
    gi_wp2_with (refine ⟨trivial, ?_⟩; gi_at_call 68; refine (CallsIn.inRound l (callsIn_wide.2 (c_vector ad n c X Y i j _ (by omega) hjn bi bj hA))).mono ?_; rintro e w2 ⟨rfl, hb2⟩)
    obtain ⟨W2, hW2⟩ : ∃ W2, W2 = w2.alloc (.cells #[.int .i64 (X j - X i), .int .i64 (Y j - Y i)] 62) := ⟨_, rfl⟩
    have b1 : W2.cell? ⟨w2.heap.size, 0, none⟩ = some (.int .i64 (X j - X i)) := by rw [hW2]; simp
    have b2 : W2.cell? ⟨w2.heap.size, 1, none⟩ = some (.int .i64 (Y j - Y i)) := by rw [hW2]; simp
    have sW2 : w2.heap.size < W2.heap.size := by rw [hW2]; simp
    have T2 : Turn w1.heap.size W W2 := by rw [hW2]; exact (Turn.of_below hb2).alloc _
    have R2 : Row W2 w1.heap.size 4 16 (fun c => .bool (covL k X Y (vals pre) c)) := by rw [hW2]; exact (hR.step hb2).alloc _
    have hsz := hT.size
    have hs2 := hb2.size
    have d2 := (T2.cell (p := ⟨w.heap.size + 1, 0, none⟩) (by show w.heap.size + 1 < _; omega) (by show w.heap.size + 1 ≠ _; omega)).trans c2
    have d3 := (T2.cell (p := ⟨w1.heap.size + 1, 0, none⟩) (by show w1.heap.size + 1 < _; omega) (by show w1.heap.size + 1 ≠ _; omega)).trans c3
    rw [← hW2]
    clear hW2 hb2 hR c1 c2 c3 hA BW
    have m1 := mul_bd ⟨hk1, hk2⟩ (d := X j - X i) (by omega)
    have m2 := mul_bd ⟨hk1, hk2⟩ (d := Y j - Y i) (by omega)
    have e1 : IntKind.i64.wrap (k * (X j - X i)) = k * (X j - X i) := IntWalk.i64_in _ (by omega)
    have e2 : IntKind.i64.wrap (k * (Y j - Y i)) = k * (Y j - Y i) := IntWalk.i64_in _ (by omega)
    have e3 : IntKind.i64.wrap (-k) = -k := IntWalk.i64_in _ (by omega)
    have e4 : IntKind.i64.wrap (-k * (X j - X i)) = -k * (X j - X i) := IntWalk.i64_in _ (by rw [Int.neg_mul]; omega)
    have e5 : IntKind.i64.wrap (-k * (Y j - Y i)) = -k * (Y j - Y i) := IntWalk.i64_in _ (by rw [Int.neg_mul]; omega)
    obtain ⟨q1, hq1, lq1⟩ : ∃ q, cellK k X Y i j = q ∧ q < 16 := ⟨_, rfl, cellK_lt _ _ _ _ _⟩
    obtain ⟨q2, hq2, lq2⟩ : ∃ q, cellK k X Y j i = q ∧ q < 16 := ⟨_, rfl, cellK_lt _ _ _ _ _⟩
    have CC1 := Lib.hid (cellAt_still (IntKind.i64.wrap (k * (X j - X i))) (IntKind.i64.wrap (k * (Y j - Y i))) q1 (by rw [e1, e2]; exact hq1))
    have CC2 := Lib.hid (cellAt_still (IntKind.i64.wrap (IntKind.i64.wrap (-k) * (X j - X i))) (IntKind.i64.wrap (IntKind.i64.wrap (-k) * (Y j - Y i))) q2 (by rw [e3, e4, e5, cellK_back]; exact hq2))
    clear e1 e2 e3 e4 e5 m1 m2 bi bj
    have i1 : (q1 : Int) < 16 := by omega
    have i2 : (q2 : Int) < 16 := by omega
    have o1 := R2.frozen q1
    have o2 := R2.cell lq1
    refine region_round 11 (by kernel_rfl) (by kernel_rfl) (by kernel_rfl) ?_
    simp only [List.take_succ_cons, List.take_zero, List.drop_succ_cons, List.drop_zero]
    repeat still_step
    still_call (CC1.out _)
    repeat still_step
    refine wpStill_nil ?_
    go_wp2
    refine OnlyN.mk ?_
    gi_wp2
    obtain ⟨W3, hW3⟩ : ∃ W3, W3 = (W2.setCell ⟨w1.heap.size, q1, none⟩ (.bool true)).drew := ⟨_, rfl⟩
    have T3 : Turn w1.heap.size W W3 := by rw [hW3]; exact (T2.set q1 _).drew
    have U3 : Turn w1.heap.size W2 W3 := by rw [hW3]; exact ((Turn.refl _ _).set q1 _).drew
    have b1' := b1
    have b2' := b2
    have hs3 : w2.heap.size < W2.heap.size := sW2
    have R3 : Row W3 w1.heap.size 4 16 (fun c => .bool (if c = q1 then true else covL k X Y (vals pre) c)) := by rw [hW3]; exact (R2.set q1 _).congr (fun c _ => by by_cases e : c = q1 <;> simp [e])
    rw [← hW3]
    clear hW3 o1 o2 R2 b1 b2
    have b1 : W3.cell? ⟨w2.heap.size, 0, none⟩ = some (.int .i64 (X j - X i)) := (U3.cell (p := ⟨w2.heap.size, 0, none⟩) (by show w2.heap.size < _; omega) (by show w2.heap.size ≠ _; omega)).trans b1'
    have b2 : W3.cell? ⟨w2.heap.size, 1, none⟩ = some (.int .i64 (Y j - Y i)) := (U3.cell (p := ⟨w2.heap.size, 1, none⟩) (by show w2.heap.size < _; omega) (by show w2.heap.size ≠ _; omega)).trans b2'
    have e2 := (U3.cell (p := ⟨w.heap.size + 1, 0, none⟩) (by show w.heap.size + 1 < _; omega) (by show w.heap.size + 1 ≠ _; omega)).trans d2
    have e3 := (U3.cell (p := ⟨w1.heap.size + 1, 0, none⟩) (by show w1.heap.size + 1 < _; omega) (by show w1.heap.size + 1 ≠ _; omega)).trans d3
    have o1 := R3.frozen q2
    have o2 := R3.cell lq2
    clear d2 d3 b1' b2'
    refine region_round 13 (by kernel_rfl) (by kernel_rfl) (by kernel_rfl) ?_
    simp only [List.take_succ_cons, List.take_zero, List.drop_succ_cons, List.drop_zero]
    repeat still_step
    still_call (CC2.out _)
    repeat still_step
    refine wpStill_nil ?_
    go_wp2
    refine OnlyN.mk ?_
    gi_wp2
    have T4 : Turn w1.heap.size W (W3.setCell ⟨w1.heap.size, q2, none⟩ (.bool true)).drew := (T3.set q2 _).drew
    refine ⟨T4.keeps hrc, T4.cell (p := ⟨w1.heap.size + 2, 0, none⟩) (by show w1.heap.size + 2 < _; omega) (by show w1.heap.size + 2 ≠ _; omega), hT.trans T4, (R3.set q2 _).congr (fun c _ => ?_)⟩
    rw [vals_snoc, covL_snoc, hq1, hq2]
    by_cases e : c = q2 <;> simp [e]
  case done =>
    rintro D ys W hD hys ⟨hT, hR⟩ hK
    have c3 := (hT.cell (p := ⟨w1.heap.size + 1, 0, none⟩) (by show w1.heap.size + 1 < _; omega) (by show w1.heap.size + 1 ≠ _; omega)).trans l3
    gi_wp2
    refine ⟨by simp, .inl ⟨_, _, rfl, run_takeDeferred hK, ?_⟩⟩
    refine ⟨.tuple #[.slice (some ⟨w1.heap.size, 0, none⟩) 16 16, .bool true], by simp [results, Try.results34, go_sem], _, _, rfl, ?_, fun _ => ⟨_, rfl, by omega, (row_putObj hR _ (by omega)).congr (fun c _ => by rw [hys, covL_prs])⟩⟩
    exact (B0.trans (hT.below (by omega) B0.size)).trans (below_putObj _ (by omega))
  case stop =>
    rintro D c pre W _ _ h _
    exact h.elim
end Go.Proofs.Ytpabcpiiolfakaa
