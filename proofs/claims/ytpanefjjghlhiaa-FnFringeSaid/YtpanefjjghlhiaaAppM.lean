/-
  Appending several elements onto a list of the call's own; storing into such a list. No program.
-/
import Derived.Test.YtpanefjjghlhiaaRowsLib
import Derived.Test.YtpanefjjghlhiaaFrLaw
import Derived.Deep.AppendLies
namespace Go.Proofs.Ytpanefjjghlhiaa
open Go.RowKit

/-- One list behind another. -/
def joinF (n : Nat) (f g : Nat → Value) (i : Nat) : Value := if i < n then f i else g (i - n)
theorem joinF_list (n m : Nat) (f g : Nat → Value) : (List.range (n + m)).map (joinF n f g) = (List.range n).map f ++ (List.range m).map g := by
  rw [List.range_add, List.map_append, List.map_map]
  congr 1
  · exact List.map_congr_left fun i hi => by unfold joinF; rw [if_pos (List.mem_range.1 hi)]
  · exact List.map_congr_left fun i _ => by
      show joinF n f g (n + i) = g i
      unfold joinF
      rw [if_neg (by omega), Nat.add_sub_cancel_left]

theorem wpList_appM {P : Program} {ops : Array Oper} {rest : List Oper} {o : Oper} {a : Act} {Q : Exit → Act → World → Prop} (w : World) (hgd : o.guard = none) (s x : Operand) (t : TypeId)
    (ho : o.op = .call { callee := .builtin .append, args := #[s, x], argTypes := #[t, t] })
    (base : Nat) (e : TypeId) (z : Value) (bytes : Nat) (ht : P.underlying t = some (.slice e)) (hinfo : (P.info? e).map (fun i => (i.zero, i.size, i.bytes)) = some (some z, 1, bytes)) (hzs : z.cells.size = 1) (hby : bytes ≤ 64)
    (v : Value) (n : Nat) (f g : Nat → Value) (hs : a.eval s = v) (hown : Own w base e v n f) (ad : Addr) (m c B : Nat) (hx : a.eval x = .slice (some ad) m c) (hr : Rd w B (some ad) m g) (h1 : ∀ k, k < m → (g k).oneCell' = true)
    (hm : n + m ≤ 1000000000) (hbase : base ≤ w.heap.size)
    (h : ∀ v' w', Own w' base e v' (n + m) (joinF n f g) → Below base w w' → w.grownBy w' v.ownBlock → (∀ k, v'.ownBlock = some k → v.ownBlock = some k ∨ w.heap.size ≤ k) → wpList P ops Q rest (a.put o.dst v') w') : wpList P ops Q (o :: rest) a w := by
  obtain ⟨i, hi, hz0, hz1, hz2⟩ := info_parts hinfo
  refine wpList_append_own_at _ hgd s x t ho base e i z 1 bytes ht hi hz0 hz1 hz2 hzs (by decide) v n _ hs hown ad m c ((List.range m).map g) hx (by simp) ?_ ?_
    (by unfold maxLen; omega) ?_ hbase ?_
  · intro j u hj
    have hjm : j < m := by
      have := (List.getElem?_eq_some_iff.1 hj).1
      simpa using this
    obtain ⟨ad', e', _, hc⟩ := hr (by omega)
    injection e' with e'
    subst e'
    rw [hc j hjm]
    simpa [hjm] using hj
  · intro u hu
    obtain ⟨k, hk, rfl⟩ := List.mem_map.1 hu
    exact h1 k (List.mem_range.1 hk)
  · have : (n + m) * bytes ≤ 1000000000 * 64 := Nat.mul_le_mul (by omega) hby
    omega
  · intro v' w1 hown' hgrow _ hat
    refine h v' w1 ?_ ((Below.refl _ _).grown hgrow hbase hown.from_) hgrow (fun k hk => ?_)
    · unfold Own
      rw [joinF_list]
      exact hown'
    · rcases hat with e1 | e1
      · exact .inl (by rw [← e1]; exact hk)
      · rw [e1] at hk
        injection hk with hk
        exact .inr (by omega)

section
variable {w w' : World} {B n : Nat} {t : TypeId} {v : Value} {f : Nat → Value}
/-- A store into a list of the call's own. -/
theorem Own.set (h : Own w B t v n f) {b c i : Nat} (hv : v = .slice (some ⟨b, 0, none⟩) n c) (x : Value) : Own (w.setCell ⟨b, i, none⟩ x) B t v n (fun j => if j = i then x else f j) := by
  obtain ⟨_, h2⟩ := h
  refine ⟨by simp, .inr ?_⟩
  rcases h2 with ⟨e, _⟩ | ⟨g, cap, cur, e, hg, hh, h3, h4, h5, h6⟩
  · rw [hv] at e; cases e
  · rw [hv] at e
    have eb : b = g := by injection e with e1; injection e1 with e1; injection e1
    subst eb
    refine ⟨b, cap, cur.setIfInBounds i x, by rw [hv]; exact e, hg, by simp [World.setCell, Array.getElem?_modify, hh], h3, h4, by simpa using h5, ?_⟩
    have hc : ∀ j, j < n → cur[j]? = some (f j) := fun j hj => by
      have h7 : (cur.toList.take (n * 1))[j]? = some (f j) := by rw [h6]; simp [hj]
      rw [List.getElem?_take, if_pos (by omega)] at h7
      simpa using h7
    refine List.ext_getElem? fun j => ?_
    by_cases hj : j < n
    · rw [List.getElem?_take, if_pos (by omega), Array.getElem?_toList, Array.getElem?_setIfInBounds]
      have hlt : j < cur.size := (Array.getElem?_eq_some_iff.1 (hc j hj)).1
      by_cases e2 : i = j
      · subst e2; simp [hlt, hj]
      · rw [if_neg e2, hc j hj]
        simp only [List.getElem?_map, List.getElem?_range hj, Option.map_some]
        rw [if_neg (fun h : j = i => e2 h.symm)]
    · rw [List.getElem?_take, if_neg (by omega)]
      simp [hj]
theorem Own.form (h : Own w B t v n f) (hn : 0 < n) : ∃ b c, v = .slice (some ⟨b, 0, none⟩) n c ∧ B ≤ b ∧ b < w.heap.size := by
  obtain ⟨b, c, e, h1, h2⟩ := World.ownsRow.form h hn
  exact ⟨b, c, e, h1, h2⟩
end

section
variable {w w' : World} {B n : Nat} {t : TypeId} {V : Nat → Value} {L : Nat → Nat} {f : Nat → Nat → Int}
/-- A store into one row. -/
theorem OwnRs.set (h : OwnRs w B t n V L f) {r b c i : Nat} (hr : r < n) (hv : V r = .slice (some ⟨b, 0, .none⟩) (L r) c) (x : Int) : OwnRs (w.setCell ⟨b, i, .none⟩ (.int .i64 x)) B t n V L (onF f r i x) := by
  refine ⟨fun s hs => ?_, h.apart⟩
  by_cases e : s = r
  · subst e
    refine ((h.row s hs).set hv _).congr fun j _ => ?_
    unfold onF
    rw [if_pos rfl]
    by_cases e2 : j = i <;> simp [e2]
  · refine ((h.row s hs).keep fun k hk => ?_).congr fun j _ => by unfold onF; rw [if_neg e]
    exact Below.heap_setCell w ⟨b, i, .none⟩ _ k (fun e2 => h.apart s r hs hr e k hk (by rw [hv]; exact congrArg some e2.symm))
/-- One row is put anew. -/
theorem OwnRs.put (h : OwnRs w B t n V L f) {c m : Nat} {v' : Value} {g : Nat → Int} (hc : c < n) (hg : w.grownBy w' (V c).ownBlock) (ho : Own w' B t v' m (fun i => .int .i64 (g i)))
    (hat : ∀ k, v'.ownBlock = some k → (V c).ownBlock = some k ∨ w.heap.size ≤ k) : OwnRs w' B t n (fun r => if r = c then v' else V r) (fun r => if r = c then m else L r) (fun r => if r = c then g else f r) := by
  refine ⟨fun r hr => ?_, fun r s hr hs hrs k hk0 => ?_⟩
  · show Own w' B t (if r = c then v' else V r) (if r = c then m else L r) (fun i => .int .i64 ((if r = c then g else f r) i))
    by_cases e : r = c
    · subst e; simpa using ho
    · rw [if_neg e, if_neg e, if_neg e]
      exact (h.row r hr).keep fun k hk => hg.block k ((h.row r hr).lt hk) (fun e2 => h.apart r c hr hc e k hk e2.symm)
  · show (if s = c then v' else V s).ownBlock ≠ some k
    have hk : (if r = c then v' else V r).ownBlock = some k := hk0
    clear hk0
    by_cases e : r = c
    · subst e
      rw [if_pos rfl] at hk
      rw [if_neg (fun e => hrs e.symm)]
      rcases hat k hk with h1 | h1
      · exact h.apart r s hr hs hrs k h1
      · exact fun e2 => by have := (h.row s hs).lt e2; omega
    · rw [if_neg e] at hk
      by_cases e' : s = c
      · subst e'
        rw [if_pos rfl]
        intro e2
        rcases hat k e2 with h1 | h1
        · exact h.apart r s hr hs hrs k hk h1
        · have := (h.row r hr).lt hk; omega
      · rw [if_neg e']; exact h.apart r s hr hs hrs k hk
/-- A store into the list of rows leaves the rows. -/
theorem OwnRs.far (h : OwnRs w B t n V L f) {p : Addr} (hp : ∀ r, r < n → (V r).ownBlock ≠ some p.block) (x : Value) : OwnRs (w.setCell p x) B t n V L f :=
  h.keep fun r hr k hk => Below.heap_setCell w p x k (fun e => hp r hr (by rw [hk, e]))
end
end Go.Proofs.Ytpanefjjghlhiaa
