/-
  Lists of lists under way: the program's (a made list whose rows grow) and the reference's (rows that are appended). Plain lemmas.
-/
import Derived.Test.YtpanefjjghlhiaaRowsLib
import Derived.Test.YtpanefjjghlhiaaFrPlain
namespace Go.Proofs.Ytpanefjjghlhiaa
open Go.RowKit

/-- The rows before k have l numbers, row k has j, the others none. -/
def upTo (k j l r : Nat) : Nat := if r < k then l else if r = k then j else 0
theorem upTo_self (k j l : Nat) : upTo k j l k = j := by simp [upTo]
def FrSt (w : World) (go n k j l : Nat) (F : Nat → Nat → Int) (wr : World) : Prop :=
  ∃ V, Below w.heap.size w wr ∧ Row wr go 26 n V ∧ OwnRs wr w.heap.size 3 n V (upTo k j l) F
theorem FrSt.start (w : World) (o : Obj) (n l : Nat) (F : Nat → Nat → Int) : FrSt w (w.heap.size + 1) n 0 0 l F ((w.alloc o).alloc (.cells (madeCells #[.slice none 0 0] n) 26)) := by
  refine ⟨fun _ => .slice none 0 0, ((Below.refl _ _).alloc (Nat.le_refl _) _).alloc (by simp) _, ?_, (OwnRs.none _ _ _ _ _).congrL fun r _ => by unfold upTo; split <;> simp_all⟩
  have := Row.made (w.alloc o) (.slice none 0 0) n 26
  simpa using this
theorem FrSt.start0 {w w0 : World} (hb : Below w.heap.size w w0) (n l : Nat) (F : Nat → Nat → Int) : FrSt w w0.heap.size n 0 0 l F (w0.alloc (.cells (madeCells #[.slice none 0 0] n) 26)) := by
  exact ⟨fun _ => .slice none 0 0, hb.alloc hb.size _, Row.made w0 (.slice none 0 0) n 26, (OwnRs.none _ _ _ _ _).congrL fun r _ => by unfold upTo; split <;> simp_all⟩
theorem FrSt.next {w wr : World} {go n k l : Nat} {F : Nat → Nat → Int} (h : FrSt w go n k l l F wr) : FrSt w go n (k + 1) 0 l F wr := by
  obtain ⟨V, hB, hR, hO⟩ := h
  refine ⟨V, hB, hR, hO.congrL fun r _ => ?_⟩
  unfold upTo
  by_cases h1 : r < k
  · rw [if_pos h1, if_pos (by omega)]
  · rw [if_neg h1]
    by_cases h2 : r = k
    · rw [if_pos h2, if_pos (by omega)]
    · rw [if_neg h2, if_neg (by omega)]; split <;> rfl
theorem fr_kept {w wr w1 : World} {go n k j l : Nat} {F : Nat → Nat → Int} {V : Nat → Value} (hR : Row wr go 26 n V) (hO : OwnRs wr w.heap.size 3 n V (upTo k j l) F) (hk : k < n)
    (hg : wr.grownBy w1 (V k).ownBlock) : Row w1 go 26 n V :=
  hR.of_block (hg.block go hR.lt (fun e => (hO.row k hk).ne_row hR (by decide) e.symm))
theorem fr_store {w wr w1 : World} {go n k j l : Nat} {F : Nat → Nat → Int} {V : Nat → Value} {v' : Value} (hB : Below w.heap.size w wr) (hR : Row wr go 26 n V) (hO : OwnRs wr w.heap.size 3 n V (upTo k j l) F) (hk : k < n) (hgo : w.heap.size ≤ go)
    (hb1 : Below w.heap.size wr w1) (hg : wr.grownBy w1 (V k).ownBlock) (ho : Own w1 w.heap.size 3 v' (j + 1) (fun i => .int .i64 (F k i))) (hat : ∀ b, v'.ownBlock = some b → (V k).ownBlock = some b ∨ wr.heap.size ≤ b) :
    FrSt w go n k (j + 1) l F (w1.setCell ⟨go, k, none⟩ v') := by
  have hR1 := fr_kept hR hO hk hg
  have hO1 := hO.grow hk hg (by rw [upTo_self]; exact ho) hat
  refine ⟨fun r => if r = k then v' else V r, (hB.trans hb1).setCell hgo _, hR1.set k v', (hO1.keep fun r hr b hb => ?_).congrL fun r _ => ?_⟩
  · exact Below.heap_setCell w1 ⟨go, k, none⟩ v' b (fun e => (hO1.row r hr).ne_row hR1 (by decide) (by rw [hb, e]))
  · unfold upTo
    by_cases h1 : r = k
    · subst h1; simp
    · rw [if_neg h1, if_neg h1, if_neg h1]
theorem FrSt.made {w wr : World} {go n l : Nat} {F : Nat → Nat → Int} (h : FrSt w go n n 0 l F wr) (hgo : w.heap.size ≤ go) :
    ∃ V, Below w.heap.size w wr ∧ MadeR wr w.heap.size 26 3 (some ⟨go, 0, none⟩) n V (fun _ => l) F := by
  obtain ⟨V, hB, hR, hO⟩ := h
  exact ⟨V, hB, fun _ => ⟨go, rfl, hgo, hR⟩, hO.congrL fun r hr => by simp [upTo, hr]⟩

/-- k rows have been appended. -/
def SfSt (w : World) (k l : Nat) (F : Nat → Nat → Int) (vo : Value) (wr : World) : Prop :=
  ∃ V, Below w.heap.size w wr ∧ Own wr w.heap.size 26 vo k V ∧ OwnRs wr w.heap.size 3 k V (fun _ => l) F
/-- .. and row k has j numbers. -/
def SfIn (w : World) (k j l : Nat) (F : Nat → Nat → Int) (vo v : Value) (wr : World) : Prop :=
  ∃ V, Below w.heap.size w wr ∧ Own wr w.heap.size 26 vo k V ∧ OwnRs wr w.heap.size 3 k V (fun _ => l) F ∧ Own wr w.heap.size 3 v j (fun i => .int .i64 (F k i)) ∧
    ∀ r, r < k → ∀ b, (V r).ownBlock = some b → v.ownBlock ≠ some b
theorem SfSt.start {w w0 : World} (hb : Below w.heap.size w w0) (l : Nat) (F : Nat → Nat → Int) : SfSt w 0 l F (.slice (some ⟨w0.heap.size, 0, none⟩) 0 0) (w0.alloc (.cells #[] 26)) :=
  ⟨fun _ => .slice none 0 0, hb.alloc hb.size _, Own.empty w0 26 _ hb.size, fun r h => absurd h (by omega), fun r s h => absurd h (by omega)⟩
theorem SfSt.drewN {w wr : World} {k l : Nat} {F : Nat → Nat → Int} {vo : Value} (h : SfSt w k l F vo wr) (m : Nat) : SfSt w k l F vo (wr.drewN m) := by
  obtain ⟨V, hB, h1, h2⟩ := h
  exact ⟨V, below_drewN hB m, h1.drewN m, h2.drewN m⟩
theorem SfSt.row {w wr : World} {k l : Nat} {F : Nat → Nat → Int} {vo : Value} (h : SfSt w k l F vo wr) : SfIn w k 0 l F vo (.slice (some ⟨wr.heap.size, 0, none⟩) 0 0) (wr.alloc (.cells #[] 3)) := by
  obtain ⟨V, hB, h1, h2⟩ := h
  refine ⟨V, hB.alloc hB.size _, h1.alloc _, h2.alloc _, Own.empty wr 3 _ hB.size, fun r hr b hb e => ?_⟩
  have := (h2.row r hr).lt hb
  have e2 : wr.heap.size = b := by simpa [Value.ownBlock] using e
  omega
theorem SfIn.app {w wr w1 : World} {k j l : Nat} {F : Nat → Nat → Int} {vo v v' : Value} (h : SfIn w k j l F vo v wr) (hb1 : Below w.heap.size wr w1) (hg : wr.grownBy w1 v.ownBlock)
    (ho : Own w1 w.heap.size 3 v' (j + 1) (fun i => .int .i64 (F k i))) (hat : ∀ b, v'.ownBlock = some b → v.ownBlock = some b ∨ wr.heap.size ≤ b) : SfIn w k (j + 1) l F vo v' w1 := by
  obtain ⟨V, hB, h1, h2, h3, h4⟩ := h
  refine ⟨V, hB.trans hb1, h1.keep fun b hb => hg.block b (h1.lt hb) (fun e => h1.ne_own h3 (by decide) hb e.symm), h2.keep fun r hr b hb => hg.block b ((h2.row r hr).lt hb) (fun e => h4 r hr b hb e.symm), ho, fun r hr b hb e => ?_⟩
  rcases hat b e with h5 | h5
  · exact h4 r hr b hb h5
  · have := (h2.row r hr).lt hb; omega
/-- The values with the new row. -/
theorem SfIn.push {w wr w1 : World} {k l : Nat} {F : Nat → Nat → Int} {vo vo' v : Value} {V : Nat → Value} (hB : Below w.heap.size w wr) (h1 : Own wr w.heap.size 26 vo k V) (h2 : OwnRs wr w.heap.size 3 k V (fun _ => l) F)
    (h3 : Own wr w.heap.size 3 v l (fun i => .int .i64 (F k i))) (h4 : ∀ r, r < k → ∀ b, (V r).ownBlock = some b → v.ownBlock ≠ some b) (hb1 : Below w.heap.size wr w1) (hg : wr.grownBy w1 vo.ownBlock)
    (ho : Own w1 w.heap.size 26 vo' (k + 1) (fun r => if r = k then v else V r)) : SfSt w (k + 1) l F vo' w1 := by
  refine ⟨_, hB.trans hb1, ho, OwnRs.push (L := fun _ => l) (h2.keep fun r hr b hb => ?_) (h3.keep fun b hb => ?_) h4⟩
  · exact hg.block b ((h2.row r hr).lt hb) (fun e => (h2.row r hr).ne_own h1 (by decide) hb e.symm)
  · exact hg.block b (h3.lt hb) (fun e => h3.ne_own h1 (by decide) hb e.symm)
theorem SfSt.made {w wr : World} {n l : Nat} {F : Nat → Nat → Int} {vo : Value} (h : SfSt w n l F vo wr) :
    ∃ a c V, vo = .slice a n c ∧ Below w.heap.size w wr ∧ MadeR wr w.heap.size 26 3 a n V (fun _ => l) F := by
  obtain ⟨V, hB, h1, h2⟩ := h
  obtain ⟨a, c, e, hm⟩ := h1.made
  exact ⟨a, c, V, e, hB, hm, h2⟩
end Go.Proofs.Ytpanefjjghlhiaa
