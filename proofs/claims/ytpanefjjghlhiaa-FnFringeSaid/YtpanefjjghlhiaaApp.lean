/-
  Appending one element to a list of the call's own: one law in the words of this seat's texts. No program.
-/
import Derived.Test.YtpanefjjghlhiaaLib
import Derived.Maps.AppendAt
namespace Go.Proofs.Ytpanefjjghlhiaa
open Go.RowKit

/-- The call's own list, said by a function of the index. -/
def Own (w : World) (B : Nat) (t : TypeId) (v : Value) (n : Nat) (f : Nat → Value) : Prop := w.ownsRow B t 1 v n ((List.range n).map f)

section
variable {w w' : World} {B n : Nat} {t : TypeId} {v : Value} {f g : Nat → Value}
theorem Own.made (h : Own w B t v n f) : ∃ A c, v = .slice A n c ∧ Made w B t A n f := Made.of_own h
theorem Own.congr (h : Own w B t v n f) (e : ∀ k, k < n → f k = g k) : Own w B t v n g := by
  unfold Own at *
  rw [show (List.range n).map g = (List.range n).map f from List.map_congr_left (fun k hk => (e k (List.mem_range.1 hk)).symm)]
  exact h
theorem Own.step (h : Own w B t v n f) (hb : Below w.heap.size w w') : Own w' B t v n f := by
  obtain ⟨h1, h2⟩ := h
  refine ⟨h1, ?_⟩
  rcases h2 with h2 | ⟨g, cap, cur, hv, hg, hh, r⟩
  · exact .inl h2
  · exact .inr ⟨g, cap, cur, hv, hg, (hb.block g (Array.getElem?_eq_some_iff.1 hh).1).trans hh, r⟩
theorem Own.drewN (h : Own w B t v n f) (k : Nat) : Own (w.drewN k) B t v n f := h
theorem Own.nil (w : World) (B : Nat) (t : TypeId) (f : Nat → Value) : Own w B t (.slice none 0 0) 0 f := World.ownsRow_nil _ _ _ _
/-- What an empty literal lays. -/
theorem Own.empty (w : World) (t : TypeId) (f : Nat → Value) {B : Nat} (hB : B ≤ w.heap.size) : Own (w.alloc (.cells #[] t)) B t (.slice (some ⟨w.heap.size, 0, none⟩) 0 0) 0 f := by
  have := World.ownsRow_made (e := t) (size := 1) (base := B) w #[] 0 hB (by simp) (by simp)
  exact this
theorem Own.alloc (h : Own w B t v n f) (o : Obj) : Own (w.alloc o) B t v n f := World.ownsRow.alloc h o
theorem Own.from_ (h : Own w B t v n f) : ∀ k, v.ownBlock = some k → B ≤ k := fun k hk => (World.ownsRow.lt h k hk).1
end

theorem wpList_app1 {P : Program} {ops : Array Oper} {rest : List Oper} {o : Oper} {a : Act} {Q : Exit → Act → World → Prop} (W : World) (xv : Value) (hgd : o.guard = none) (s x : Operand) (t : TypeId)
    (ho : o.op = .call { callee := .builtin .append, args := #[s, x], argTypes := #[t, t] })
    (base : Nat) (e : TypeId) (z : Value) (bytes : Nat) (ht : P.underlying t = some (.slice e)) (hinfo : (P.info? e).map (fun i => (i.zero, i.size, i.bytes)) = some (some z, 1, bytes)) (hzs : z.cells.size = 1) (hby : bytes ≤ 64)
    (v : Value) (n : Nat) (f : Nat → Value) (hs : a.eval s = v) (hown : Own W base e v n f) (hx : a.eval x = .slice (some ⟨W.heap.size, 0, none⟩) 1 1) (hf : f n = xv) (h1 : xv.oneCell' = true)
    (hn : n ≤ 1000000000) (hbase : base ≤ W.heap.size)
    (h : ∀ v' w', Own w' base e v' (n + 1) f → Below base W w' → W.grownBy w' v.ownBlock → wpList P ops Q rest (a.put o.dst v') w') : wpList P ops Q (o :: rest) a (W.alloc (.cells #[xv] e)) := by
  obtain ⟨i, hi, hz0, hz1, hz2⟩ := info_parts hinfo
  refine wpList_append_own _ hgd s x t ho base e i z 1 bytes ht hi hz0 hz1 hz2 hzs (by decide) v n _ hs (hown.alloc _) ⟨W.heap.size, 0, none⟩ 1 1 [xv] hx rfl (cell_one_new _ _ _) (by simpa using h1)
    (by unfold maxLen; omega) ?_ (by simp; omega) ?_
  · have : (n + 1) * bytes ≤ 1000000001 * 64 := Nat.mul_le_mul (by omega) hby
    omega
  · intro v' w1 hown' hgrow _
    have hg : W.grownBy w1 v.ownBlock := by
      have hsz := hgrow.size
      simp at hsz
      refine ⟨hgrow.os, hgrow.tape, hgrow.output, by omega, fun k hk hne => (hgrow.block k (by simp; omega) hne).trans (Below.heap_alloc W _ k hk)⟩
    refine h v' w1 ?_ ((Below.refl _ _).grown hg hbase hown.from_) hg
    unfold Own
    rw [List.range_succ, List.map_append]
    simpa [hf] using hown'
end Go.Proofs.Ytpanefjjghlhiaa
