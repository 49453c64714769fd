/-
  Appending one element, as one step of a region that draws its order. No program.
-/
import Derived.Test.YtpanefjjghlhiaaRowsLib
import Derived.Deep.AppendLies
import Derived.Deep.RegionLaw
import Derived.Deep.RegionHeld3
namespace Go.Proofs.Ytpanefjjghlhiaa
open Go.RowKit

/-- The element lies alone in block B. -/
def One (w : World) (B : Nat) (e : TypeId) (xv : Value) : Prop := w.heap[B]? = some (.cells #[xv] e (0, 0))
theorem One.new (w : World) (e : TypeId) (xv : Value) : One (w.alloc (.cells #[xv] e)) w.heap.size e xv := heap_alloc_new w _
theorem One.drew {w : World} {B : Nat} {e : TypeId} {xv : Value} (h : One w B e xv) : One w.drew B e xv := h
theorem Own.drew {w : World} {B n : Nat} {t : TypeId} {v : Value} {f : Nat → Value} (h : Own w B t v n f) : Own w.drew B t v n f := h
theorem OwnRs.drew {w : World} {B n : Nat} {t : TypeId} {V : Nat → Value} {L : Nat → Nat} {f : Nat → Nat → Int} (h : OwnRs w B t n V L f) : OwnRs w.drew B t n V L f := ⟨h.row, h.apart⟩
theorem below_drew {B : Nat} {a w : World} (h : Below B a w) : Below B a w.drew := ⟨h.os, h.tape, h.output, h.size, h.block⟩

theorem step_app1 {P : Program} {ops : Array Oper} {o : Oper} {a : Act} {K : Act → World → Prop} {Q : Exit → Act → World → Prop} {E : Prop} (w : World) (B : Nat) (xv : Value) (hgd : o.guard = none) (s x : Operand) (t : TypeId)
    (ho : o.op = .call { callee := .builtin .append, args := #[s, x], argTypes := #[t, t] })
    (base : Nat) (e : TypeId) (z : Value) (bytes : Nat) (ht : P.underlying t = some (.slice e)) (hinfo : (P.info? e).map (fun i => (i.zero, i.size, i.bytes)) = some (some z, 1, bytes)) (hzs : z.cells.size = 1) (hby : bytes ≤ 64)
    (v : Value) (n : Nat) (f : Nat → Value) (hs : a.eval s = v) (hown : Own w base e v n f) (hx : a.eval x = .slice (some ⟨B, 0, none⟩) 1 1) (hone : One w B e xv) (hf : f n = xv) (h1 : xv.oneCell' = true)
    (hn : n ≤ 1000000000) (hbase : base ≤ w.heap.size)
    (h : ∀ A' c' w', Own w' base e (.slice A' (n + 1) c') (n + 1) f → Below base w w' → w.grownBy w' v.ownBlock → (∀ k, (Value.slice A' (n + 1) c').ownBlock = some k → v.ownBlock = some k ∨ w.heap.size ≤ k) → K (a.put o.dst (.slice A' (n + 1) c')) w') :
    if Region.wanted o (yielded ops a.tmps) = true then Oper.wp P o a w K Q else E := by
  obtain ⟨i, hi, hz0, hz1, hz2⟩ := info_parts hinfo
  refine step_append_lies w hgd s x t ho base e i z 1 bytes ht hi hz0 hz1 hz2 hzs (by decide) v n _ hs hown ⟨B, 0, none⟩ 1 1 [xv] hx rfl (World.news_of_block (cs := #[xv]) hone) (by simpa using h1)
    (by omega) (by unfold maxLen; omega) ?_ hbase _ rfl ?_
  · have : (n + 1) * bytes ≤ 1000000001 * 64 := Nat.mul_le_mul (by omega) hby
    omega
  · intro g cap w1 hown' hgrow hat _
    refine h _ cap w1 ?_ ((Below.refl _ _).grown hgrow hbase hown.from_) hgrow (fun k hk => ?_)
    · unfold Own
      rw [List.range_succ, List.map_append]
      simpa [hf] using hown'
    · have e1 : g = k := by simpa [Value.ownBlock] using hk
      subst e1
      rcases hat with e2 | e2
      · exact .inl e2
      · exact .inr (by omega)
end Go.Proofs.Ytpanefjjghlhiaa
