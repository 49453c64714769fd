/-
  Copying a list by append onto an empty one, in the words of this seat's texts. No program.
-/
import Derived.Test.YtpabcpiiolfakaaApp
namespace Go.Proofs.Ytpabcpiiolfakaa
open Go.RowKit

theorem wpList_copy0 {P : Program} {ops : Array Oper} {rest : List Oper} {o : Oper} {a : Act} {Q : Exit → Act → World → Prop} (w : World) (hgd : o.guard = none) (s x : Operand) (t : TypeId)
    (ho : o.op = .call { callee := .builtin .append, args := #[s, x], argTypes := #[t, t] })
    (base : Nat) (e : TypeId) (z : Value) (bytes : Nat) (ht : P.underlying t = some (.slice e)) (hinfo : (P.info? e).map (fun i => (i.zero, i.size, i.bytes)) = some (some z, 1, bytes)) (hzs : z.cells.size = 1) (hby : bytes ≤ 64)
    (v : Value) (f g : Nat → Value) (hs : a.eval s = v) (hown : Own w base e v 0 f) (ad : Addr) (m c B : Nat) (hx : a.eval x = .slice (some ad) m c) (hr : Rd w B (some ad) m g) (h1 : ∀ k, k < m → (g k).oneCell' = true)
    (hm : m ≤ 1000000000) (hbase : base ≤ w.heap.size)
    (h : ∀ v' w', Own w' base e v' m g → Below base w w' → wpList P ops Q rest (a.put o.dst v') w') : wpList P ops Q (o :: rest) a w := by
  obtain ⟨i, hi, hz0, hz1, hz2⟩ := info_parts hinfo
  refine wpList_append_own _ hgd s x t ho base e i z 1 bytes ht hi hz0 hz1 hz2 hzs (by decide) v 0 _ hs hown ad m c ((List.range m).map g) hx (by simp) ?_ ?_
    (by unfold maxLen; omega) ?_ hbase ?_
  · intro j u hj
    have hjm : j < m := by
      have := (List.getElem?_eq_some_iff.1 hj).1
      simpa using this
    obtain ⟨ad', e', _, hc⟩ := hr (by omega)
    injection e' with e'
    subst e'
    rw [hc j hjm]
    simpa [hjm] using hj
  · intro u hu
    obtain ⟨k, hk, rfl⟩ := List.mem_map.1 hu
    exact h1 k (List.mem_range.1 hk)
  · have : (0 + m) * bytes ≤ 1000000001 * 64 := Nat.mul_le_mul (by omega) hby
    omega
  · intro v' w1 hown' hgrow _
    refine h v' w1 ?_ ((Below.refl _ _).grown hgrow hbase hown.from_)
    unfold Own
    simpa using hown'
end Go.Proofs.Ytpabcpiiolfakaa
