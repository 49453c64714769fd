/-
  Blocks that a statement lays and appends to, in whatever order: what is kept. No program.
-/
import Derived.Test.YtpanefjjghlhiaaAppS
import Derived.Test.YtpanefjjghlhiaaAppM
namespace Go.Proofs.Ytpanefjjghlhiaa
open Go.RowKit

/-- A block that is known whole. -/
def At (w : World) (e : Nat) (cs : Array Value) (t : TypeId) : Prop := w.heap[e]? = some (.cells cs t (0, 0))
section
variable {w w' : World} {e : Nat} {cs : Array Value} {t : TypeId}
theorem At.new' (w : World) (cs : Array Value) (t : TypeId) {e : Nat} (h : w.heap.size = e) : At (w.alloc (.cells cs t)) e cs t := by subst h; exact heap_alloc_new w _
theorem At.lt (h : At w e cs t) : e < w.heap.size := (Array.getElem?_eq_some_iff.1 h).1
theorem At.alloc (h : At w e cs t) (o : Obj) : At (w.alloc o) e cs t := (Below.heap_alloc w o e h.lt).trans h
theorem At.drew (h : At w e cs t) : At w.drew e cs t := h
theorem At.one {v : Value} (h : At w e #[v] t) : One w e t v := h
theorem At.ne {e' : Nat} {cs' : Array Value} {t' : TypeId} (h : At w e cs t) (h' : At w e' cs' t') (hne : cs.size ≠ cs'.size ∨ t ≠ t') : e ≠ e' := fun q => by
  subst q
  unfold At at h h'
  rw [h] at h'
  injection h' with h1
  injection h1 with h2 h3
  rcases hne with hne | hne
  · exact hne (by rw [h2])
  · exact hne h3
theorem At.grown {e' : Nat} {cs' : Array Value} {t' : TypeId} {n c : Nat} (hg : w.grownBy w' (Value.slice (some ⟨e', 0, none⟩) n c).ownBlock) (h : At w e cs t) (h' : At w e' cs' t') (hne : cs.size ≠ cs'.size ∨ t ≠ t') : At w' e cs t :=
  (hg.block e h.lt (fun q => h.ne h' hne (by simpa [Value.ownBlock] using q))).trans h
theorem Own.at_ {B : Nat} {f : Nat → Value} (h : At w e #[] t) (hB : B ≤ e) : Own w B t (.slice (some ⟨e, 0, none⟩) 0 0) 0 f := by
  refine ⟨by simp, .inr ⟨e, 0, #[], rfl, hB, h, ?_⟩⟩
  simp
theorem Own.grownT {B n : Nat} {v : Value} {f : Nat → Value} {B' n' : Nat} {t' : TypeId} {v' : Value} {f' : Nat → Value} (hg : w.grownBy w' v'.ownBlock) (h : Own w B t v n f) (h' : Own w B' t' v' n' f') (ht : t ≠ t') : Own w' B t v n f :=
  h.keep fun b hb => hg.block b (h.lt hb) (fun q => h.ne_own h' ht hb q.symm)
theorem Below.allocS {a : World} (h : Below a.heap.size a w) (o : Obj) : Below a.heap.size a (w.alloc o) := h.alloc h.size o
theorem Below.drewS {a : World} (h : Below a.heap.size a w) : Below a.heap.size a w.drew := ⟨h.os, h.tape, h.output, h.size, h.block⟩
theorem Below.grownS {a : World} {v : Value} {n : Nat} {f : Nat → Value} (h : Below a.heap.size a w) (hg : w.grownBy w' v.ownBlock) (hf : Own w a.heap.size t v n f) : Below a.heap.size a w' := h.grown hg h.size hf.from_
end

theorem step_appM {P : Program} {ops : Array Oper} {o : Oper} {a : Act} {K : Act → World → Prop} {Q : Exit → Act → World → Prop} {E : Prop} (w : World) (hgd : o.guard = none) (s x : Operand) (t : TypeId)
    (ho : o.op = .call { callee := .builtin .append, args := #[s, x], argTypes := #[t, t] })
    (base : Nat) (e : TypeId) (z : Value) (bytes : Nat) (ht : P.underlying t = some (.slice e)) (hinfo : (P.info? e).map (fun i => (i.zero, i.size, i.bytes)) = some (some z, 1, bytes)) (hzs : z.cells.size = 1) (hby : bytes ≤ 64)
    (v : Value) (n : Nat) (f g : Nat → Value) (hs : a.eval s = v) (hown : Own w base e v n f) (ad : Addr) (m c : Nat) (hx : a.eval x = .slice (some ad) m c) (hr : ∀ k, k < m → w.cell? (ad.add k) = some (g k)) (h1 : ∀ k, k < m → (g k).oneCell' = true)
    (hm0 : 0 < m) (hm : n + m ≤ 1000000000) (hbase : base ≤ w.heap.size)
    (h : ∀ gb cap w', Own w' base e (.slice (some ⟨gb, 0, none⟩) (n + m) cap) (n + m) (joinF n f g) → w.grownBy w' v.ownBlock → K (a.put o.dst (.slice (some ⟨gb, 0, none⟩) (n + m) cap)) w') :
    if Region.wanted o (yielded ops a.tmps) = true then Oper.wp P o a w K Q else E := by
  obtain ⟨i, hi, hz0, hz1, hz2⟩ := info_parts hinfo
  refine step_append_lies w hgd s x t ho base e i z 1 bytes ht hi hz0 hz1 hz2 hzs (by decide) v n _ hs hown ad m c ((List.range m).map g) hx (by simp) ?_ ?_ hm0
    (by unfold maxLen; omega) ?_ hbase _ rfl ?_
  · intro j u hj
    have hjm : j < m := by
      have := (List.getElem?_eq_some_iff.1 hj).1
      simpa using this
    rw [hr j hjm]
    simpa [hjm] using hj
  · intro u hu
    obtain ⟨k, hk, rfl⟩ := List.mem_map.1 hu
    exact h1 k (List.mem_range.1 hk)
  · have : (n + m) * bytes ≤ 1000000000 * 64 := Nat.mul_le_mul (by omega) hby
    omega
  · intro gb cap w1 hown' hgrow _ _
    refine h gb cap w1 ?_ hgrow
    unfold Own
    rw [joinF_list]
    exact hown'
end Go.Proofs.Ytpanefjjghlhiaa
