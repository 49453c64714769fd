/-
  A region that draws its order, by one condition that each operation keeps: each operation is walked once, whatever the orders. No program.
-/
import Derived.Test.YtpanefjjghlhiaaFrAt
namespace Go.Proofs.Ytpanefjjghlhiaa
open Go.RowKit

section
variable {P : Program} {ops : Array Oper} {Q : Exit → Act → World → Prop} {md : Region.Mode}

/-- Every edge leads back. -/
def leadBack (ops : Array Oper) : Bool := (List.range ops.size).all fun i => ((ops[i]?).map (fun o => o.after.toList.all fun e => decide (e.on < i))).getD true

theorem leadBack_spec (hb : leadBack ops = true) {i : Nat} {o : Oper} (ho : ops[i]? = some o) : ∀ e ∈ o.after, e.on < i := by
  intro e he
  have hi : i < ops.size := (Array.getElem?_eq_some_iff.1 ho).1
  have h1 := List.all_eq_true.1 hb i (List.mem_range.2 hi)
  rw [ho] at h1
  have h2 := List.all_eq_true.1 h1 e (Array.mem_toList_iff.2 he)
  simpa using h2

theorem getD_in {l : Array Bool} {i : Nat} (h : i < l.size) (a b : Bool) : l.getD i a = l.getD i b := by simp [h]

theorem all_listed (hb : leadBack ops = true) {listed : Array Bool} (hsz : listed.size = ops.size) (hr : Region.ready md ops listed = []) : ∀ i, i < ops.size → listed.getD i false = true := by
  intro i
  induction i using Nat.strongRecOn with
  | _ i ih =>
    intro hi
    cases h : listed.getD i false with
    | true => rfl
    | false =>
      have ho : ops[i]? = some ops[i] := Array.getElem?_eq_getElem hi
      have hm : i ∈ Region.ready md ops listed := mem_ready.2 ⟨by rw [getD_in (by omega) true false]; exact h, _, ho, fun e he _ => ih e.on (leadBack_spec hb ho e he) (by have := leadBack_spec hb ho e he; omega)⟩
      rw [hr] at hm
      cases hm

def cntB (l : Array Bool) : Nat := l.toList.count true
theorem cntB_set {l : Array Bool} {i : Nat} (h : i < l.size) (hf : l.getD i true = false) : cntB (l.setIfInBounds i true) = cntB l + 1 := by
  unfold cntB
  rw [Array.toList_setIfInBounds, List.count_set (by simpa using h)]
  have h1 : l[i] = false := by simpa [h] using hf
  simp [h1]
theorem cntB_full {l : Array Bool} (h : l.size ≤ cntB l) : ∀ i, i < l.size → l.getD i false = true := by
  intro i hi
  have h1 : l.toList.count true = l.toList.length := Nat.le_antisymm List.count_le_length (by simpa [cntB] using h)
  have h2 := List.count_eq_length.1 h1 l[i] (by simp)
  simp [hi, ← h2]

theorem wpAny_inv (hb : leadBack ops = true) (I : Array Bool → Act → World → Prop)
    (hstep : ∀ (i : Nat) (o : Oper), ops[i]? = some o → ∀ (listed : Array Bool) (a : Act) (w : World), I listed a w → listed.getD i true = false → (∀ e ∈ o.after, Region.binds md e = true → listed.getD e.on false = true) →
      ∀ K : Act → World → Prop, (∀ a w, I (listed.setIfInBounds i true) a w → K a w) → if Region.wanted o (yielded ops a.tmps) = true then Oper.wp P o a w K Q else K (a.put o.dst undef) w)
    (hend : ∀ (listed : Array Bool) (a : Act) (w : World), (∀ i, i < ops.size → listed.getD i false = true) → I listed a w → Q .normal a w) :
    ∀ (fuel : Nat) (listed : Array Bool) (a : Act) (w : World), listed.size = ops.size → ops.size ≤ fuel + cntB listed → I listed a w → wpAny P md ops Q fuel listed a w
  | 0, listed, a, w, hsz, hc, h => by
    have hall := cntB_full (l := listed) (by omega)
    refine ⟨?_, hend listed a w (fun i hi => hall i (by omega)) h⟩
    refine List.eq_nil_iff_forall_not_mem.2 fun j hj => ?_
    obtain ⟨h1, o, ho, _⟩ := mem_ready.1 hj
    have hj' : j < ops.size := (Array.getElem?_eq_some_iff.1 ho).1
    have h2 := hall j (by omega)
    rw [getD_in (by omega) false true, h1] at h2
    cases h2
  | fuel + 1, listed, a, w, hsz, hc, h => by
    refine ⟨fun hr => hend listed a w (all_listed hb hsz hr) h, fun i hi => ?_⟩
    obtain ⟨h1, o, ho, h2⟩ := mem_ready.1 hi
    have hi' : i < ops.size := (Array.getElem?_eq_some_iff.1 ho).1
    refine wpOp_step ho fun K hK => hstep i o ho listed a w h h1 h2 K fun a' w' h' => hK a' w' ?_
    exact wpAny_inv hb I hstep hend fuel _ a' w' (by simpa using hsz) (by have := cntB_set (l := listed) (i := i) (by omega) h1; omega) h'

theorem wp_region_inv {id : Nat} {a : Act} {w : World} (hm : P.follows .mixedOrders = true) (hb : leadBack ops = true) (I : Array Bool → Act → World → Prop) (h0 : I (Array.replicate ops.size false) a w.drew)
    (hstep : ∀ (i : Nat) (o : Oper), ops[i]? = some o → ∀ (listed : Array Bool) (a : Act) (w : World), I listed a w → listed.getD i true = false → (∀ e ∈ o.after, Region.binds .any e = true → listed.getD e.on false = true) →
      ∀ K : Act → World → Prop, (∀ a w, I (listed.setIfInBounds i true) a w → K a w) → if Region.wanted o (yielded ops a.tmps) = true then Oper.wp P o a w K Q else K (a.put o.dst undef) w)
    (hend : ∀ (listed : Array Bool) (a : Act) (w : World), (∀ i, i < ops.size → listed.getD i false = true) → I listed a w → Q .normal a w) :
    (Code.region id ops true).wp P Q a w :=
  wp_region_any hm (wpAny_inv hb I hstep hend _ _ _ _ (by simp) (by omega) h0)
end

/-- A function turned at one place. -/
def setF {α : Type} (f : Nat → α) (k : Nat) (x : α) : Nat → α := fun j => if j = k then x else f j
end Go.Proofs.Ytpanefjjghlhiaa
