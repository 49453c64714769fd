/-
  Words for what a drawing function does: it makes blocks of its own and writes its reader's block alone.
-/
import Derived.Test.YtpanefjjghlhiaaOpen
namespace Go.Proofs.Ytpanefjjghlhiaa
open Go.RowKit

/-- Nothing that w had has turned, but for block g. -/
structure Grow (g : Nat) (w w' : World) : Prop where
  os : w'.os = w.os
  tape : w'.tape = w.tape
  output : w'.output = w.output
  size : w.heap.size ≤ w'.heap.size
  block : ∀ i, i < w.heap.size → i ≠ g → w'.heap[i]? = w.heap[i]?

section
variable {g : Nat} {w w' w'' : World}
theorem Grow.refl (g : Nat) (w : World) : Grow g w w := ⟨rfl, rfl, rfl, Nat.le_refl _, fun _ _ _ => rfl⟩
theorem Grow.trans (h : Grow g w w') (k : Grow g w' w'') : Grow g w w'' :=
  ⟨k.os.trans h.os, k.tape.trans h.tape, k.output.trans h.output, Nat.le_trans h.size k.size, fun i hi hne => (k.block i (Nat.lt_of_lt_of_le hi h.size) hne).trans (h.block i hi hne)⟩
theorem Grow.of_only (h : Only w w' (some ⟨g, 0, none⟩)) : Grow g w w' :=
  ⟨h.os, h.tape, h.output, by rw [h.size]; exact Nat.le_refl _, fun i _ hne => h.block i (fun ad e => by injection e with e; subst e; exact fun h => hne h.symm)⟩
theorem Grow.only (h : Grow g w w') (k : Only w' w'' (some ⟨g, 0, none⟩)) : Grow g w w'' := h.trans (Grow.of_only k)
theorem Grow.of_below (h : Below w.heap.size w w') : Grow g w w' := ⟨h.os, h.tape, h.output, h.size, fun i hi _ => h.block i hi⟩
theorem Grow.seq (h : Grow g w w') (k : Below w'.heap.size w' w'') : Grow g w w'' := h.trans (Grow.of_below k)
theorem Grow.drewN (h : Grow g w w') (n : Nat) : Grow g w (w'.drewN n) := ⟨h.os, h.tape, h.output, h.size, h.block⟩
theorem Grow.drew (h : Grow g w w') : Grow g w w'.drew := ⟨h.os, h.tape, h.output, h.size, h.block⟩
theorem Grow.alloc (h : Grow g w w') (o : Obj) : Grow g w (w'.alloc o) := h.seq ((Below.refl _ _).alloc (Nat.le_refl _) _)
/-- A store into a block that was made since. -/
theorem Grow.set (h : Grow g w w') {p : Addr} (hp : w.heap.size ≤ p.block) (u : Value) : Grow g w (w'.setCell p u) :=
  ⟨h.os, h.tape, h.output, by simpa [World.setCell] using h.size, fun i hi hne => (Below.heap_setCell w' p u i (by omega)).trans (h.block i hi hne)⟩
theorem Grow.below (h : Grow g w w') {B : Nat} (hB : B ≤ g) (hs : B ≤ w.heap.size) : Below B w w' := ⟨h.os, h.tape, h.output, h.size, fun k hk => h.block k (by omega) (by omega)⟩
theorem Row.grow {i n : Nat} {t : TypeId} {f : Nat → Value} (h : Row w i t n f) (hg : Grow g w w') (hne : i ≠ g) : Row w' i t n f := h.of_block (hg.block i h.lt hne)
theorem Rdr.lt {p : Nat} (h : Rdr w g p) : g < w.heap.size := by
  obtain ⟨_, _, _, _, hh, _⟩ := h
  exact (Array.getElem?_eq_some_iff.1 hh).1
theorem Rdr.below {p B : Nat} (h : Rdr w g p) (hb : Below B w w') (hg : g < B) : Rdr w' g p := by
  obtain ⟨A, n, c, f, hh, hn, hc⟩ := h
  exact ⟨A, n, c, f, (hb.block g hg).trans hh, hn, hc.1.below (hb.mono (by omega)), hc.2⟩
theorem Rdr.step {p : Nat} (h : Rdr w g p) (hb : Below w.heap.size w w') : Rdr w' g p := h.below hb h.lt
theorem Rdr.drewN {p : Nat} (h : Rdr w g p) (n : Nat) : Rdr (w.drewN n) g p := h
theorem Rdr.drew {p : Nat} (h : Rdr w g p) : Rdr w.drew g p := h
theorem Rdr.alloc {p : Nat} (h : Rdr w g p) (o : Obj) : Rdr (w.alloc o) g p := h.step ((Below.refl _ _).alloc (Nat.le_refl _) _)
/-- A store into another block from g on. -/
theorem Rdr.set {p : Nat} (h : Rdr w g p) {q : Addr} (hq : g < q.block) (u : Value) : Rdr (w.setCell q u) g p := h.below ((Below.refl (g + 1) w).setCell (by omega) u) (by omega)
end

/-- A drawn list of integers: of the call's own, small numbers. -/
def DrawnI (M : Int) (B : Nat) (v : Value) (w' : World) : Prop :=
  ∃ (b off n c : Nat) (F : Nat → Int), B ≤ b ∧ v = .slice (some ⟨b, off, none⟩) n c ∧ n ≤ 16 ∧ n ≤ c ∧ Row w' b 3 (off + n) (fun k => .int .i64 (F k)) ∧ ∀ k, -M ≤ F k ∧ F k ≤ M
/-- What a drawing function with a reader in hand answers. -/
def Draws (D : Nat → Value → World → Prop) (w : World) (g p : Nat) (e : Ending) (w' : World) : Prop :=
  ∃ v p', e = .returned v ∧ D w.heap.size v w' ∧ Rdr w' g p' ∧ p' ≤ p + 100 ∧ Grow g w w'
/-- What a drawing function of a code answers. -/
def Drew (D : Nat → Value → World → Prop) (w : World) (e : Ending) (w' : World) : Prop :=
  ∃ v, e = .returned v ∧ D w.heap.size v w' ∧ Below w.heap.size w w'
end Go.Proofs.Ytpanefjjghlhiaa
