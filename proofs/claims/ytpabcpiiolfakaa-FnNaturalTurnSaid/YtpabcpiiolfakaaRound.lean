/-
  A region that draws its order, within a round of a range over a function: where all but its last operations only read, one walk in the text's order serves. No program; no condition.
-/
import Derived.Test.YtpabcpiiolfakaaBases
import Derived.StillTailTactics
namespace Go.Proofs.Ytpabcpiiolfakaa
open Go.RowKit Go.Deep Go.Shelf

/-- Q, at a normal end alone. -/
def OnlyN (Q : Exit → Act → World → Prop) : Exit → Act → World → Prop := fun e a w => e = .normal ∧ Q .normal a w
theorem OnlyN.mk {Q : Exit → Act → World → Prop} {a : Act} {w : World} (h : Q .normal a w) : OnlyN Q .normal a w := ⟨rfl, h⟩
theorem not_letsOut (Q : Exit → Act → World → Prop) : ¬ LetsOut (OnlyN Q) := fun ⟨_, _, h, _⟩ => by cases h
/-- No operation defers. -/
def noDefer (o : Oper) : Bool := match o.op with | .defer _ => false | _ => true
theorem noDefer_ne {o : Oper} (h : noDefer o = true) : ∀ c, o.op ≠ .defer c := fun c e => by
  unfold noDefer at h
  rw [e] at h
  cases h

section
variable {L n : Nat} {P : Program} {md : Region.Mode} {ops : Array Oper} {Q : Exit → Act → World → Prop}
theorem oper_round {o : Oper} {a : Act} {w : World} {K : Act → World → Prop} (hd : noDefer o = true) (h : o.wp P a w K (OnlyN Q)) : o.wpIn (Fence.wide.inRound L) n P a w K Q := by
  refine ⟨fun _ _ => trivial, ?_⟩
  rw [Oper.semAt_eq _ _ _ (noDefer_ne hd)]
  unfold Oper.wp at h
  generalize (execOp a.eval o).run P w = r at h ⊢
  cases r with
  | ok x w' =>
    cases x with
    | value v => exact h
    | skip => exact h
    | defer d => exact h
    | enter f args =>
      refine ⟨fun e => (by cases e), CallsIn.inRound L (callsIn_wide.2 ?_)⟩
      refine Calls.mono h ?_
      intro e w'' hh
      cases e with
      | returned v => exact hh
      | panicked c => exact absurd hh.1 (by simp)
      | outgrown => exact absurd hh (not_letsOut Q)
    | row r args =>
      refine ⟨fun e => (by cases e), fun c cs _ => ?_⟩
      obtain ⟨v, w2, h1, h2⟩ := (show Rows P r args w' _ from h) c cs
      exact ⟨v, w2, h1, stepsIn_wide.2 h2⟩
    | _ => exact h.elim
  | halt x w' =>
    cases x <;> first | exact h.elim | exact absurd h.1 (by simp)
theorem wpAny_round (hd : ∀ (i : Nat) (o : Oper), ops[i]? = some o → noDefer o = true) : ∀ (fuel : Nat) (listed : Array Bool) (a : Act) (w : World),
    wpAny P md ops (OnlyN Q) fuel listed a w → wpAnyIn (Fence.wide.inRound L) n P md ops Q fuel listed a w
  | 0, _, _, _, h => ⟨h.1, h.2.2⟩
  | fuel + 1, listed, a, w, h => by
    refine ⟨fun e => (h.1 e).2, fun i hi => ?_⟩
    have h2 := h.2 i hi
    unfold wpOp at h2
    unfold wpOpIn
    cases ho : ops[i]? with
    | none => rw [ho] at h2; exact wpAny_round hd fuel _ _ _ h2
    | some o =>
      rw [ho] at h2
      simp only at h2 ⊢
      split
      · next hw =>
        rw [if_pos hw] at h2
        rcases h2 with h2 | h2
        · exact oper_round (hd i o ho) (Oper.wp_mono (fun a w h => wpAny_round hd fuel _ a w h) h2)
        · exact absurd h2.2 (not_letsOut Q)
      · next hw =>
        rw [if_neg hw] at h2
        exact ⟨fun _ _ => trivial, wpAny_round hd fuel _ _ _ h2⟩

/-- A region that draws, in a round: all operations but those from N on only read; from there the order is forced. -/
theorem region_round {id : Nat} {a : Act} {w : World} {l : List Oper} (N : Nat) (hm : P.follows .mixedOrders = true) (hB : Region.lexTailB .any l.toArray N = true) (hd : l.all noDefer = true)
    (h : wpStill P l.toArray w.drew (fun a' => wpList P l.toArray (OnlyN Q) (l.drop N) a' w.drew) (l.take N) a) : (Code.region id l.toArray true).wpIn (Fence.wide.inRound L) n P Q a w := by
  have hdd : ∀ (i : Nat) (o : Oper), l.toArray[i]? = some o → noDefer o = true := fun i o ho => List.all_eq_true.1 hd o (List.mem_of_getElem? (by simpa using ho))
  refine wpIn_region_any hm (wpAny_round hdd _ _ _ _ ?_)
  simp only [Region.lexTailB, Bool.and_eq_true, decide_eq_true_eq] at hB
  obtain ⟨⟨⟨⟨b1, b2⟩, b3⟩, b4⟩, b5⟩ := hB
  have c1 : N < l.length := by simpa using b2
  have c2 : (l.take N).length = N := by simp; omega
  have c3 : (l.drop N).length = l.toArray.size - N := by simp
  have start : HeadInv .any l.toArray N (Array.replicate l.toArray.size false) :=
    ⟨by simp, fun j _ _ e => (by rw [getD_replicate_false] at e; cases e), fun t _ ht => getD_in (by simpa using ht) (getD_replicate_false _ _)⟩
  have walked := wpAnyL_lex (md := .any) (g := l.toArray.size - N) b1 b3 b4 b2 (l.take N) 0 _ a (fun j hj => by
    have : j < N := by omega
    simp [this]) (by omega) start (by rw [c2]; exact b5) h
  have whole := wpAny_of_head (Q' := OnlyN Q) (g := l.toArray.size - N) (fun listed a' e => by
    have s := wpAny_of_seq (md := .any) (Q' := OnlyN Q) (l.drop N) N listed a' w.drew (fun j => by simp [List.getElem?_drop]) (by rw [c3]; exact e.1) e.2
    rwa [c3] at s) _ _ _ walked
  rw [c2, show N + (l.toArray.size - N) = l.toArray.size from by omega] at whole
  exact whole
end
end Go.Proofs.Ytpabcpiiolfakaa
