/-
  Lists of lists of integers: rows that read, rows of the call's own, rows under way. Plain lemmas; no program.
-/
import Derived.Test.YtpanefjjghlhiaaApp
namespace Go.Proofs.Ytpanefjjghlhiaa
open Go.RowKit

/-- The list a of n rows reads as the values V; row r is a list of the L r integers f r. -/
structure RdR (w : World) (B : Nat) (a : Option Addr) (n : Nat) (V : Nat → Value) (L : Nat → Nat) (f : Nat → Nat → Int) : Prop where
  hd : Rd w B a n V
  row : ∀ r, r < n → ∃ A c, V r = .slice A (L r) c ∧ Rd w B A (L r) (fun i => .int .i64 (f r i))

section
variable {w w' : World} {B B' n : Nat} {a : Option Addr} {V : Nat → Value} {L : Nat → Nat} {f g : Nat → Nat → Int}
theorem RdR.below (h : RdR w B a n V L f) (hb : Below B w w') : RdR w' B a n V L f :=
  ⟨h.hd.below hb, fun r hr => by obtain ⟨A, c, e, h1⟩ := h.row r hr; exact ⟨A, c, e, h1.below hb⟩⟩
theorem RdR.more (h : RdR w B a n V L f) (hB : B ≤ B') : RdR w B' a n V L f :=
  ⟨h.hd.more hB, fun r hr => by obtain ⟨A, c, e, h1⟩ := h.row r hr; exact ⟨A, c, e, h1.more hB⟩⟩
theorem RdR.step (h : RdR w w.heap.size a n V L f) (hb : Below w.heap.size w w') : RdR w' w'.heap.size a n V L f := (h.below hb).more hb.size
theorem RdR.drewN (h : RdR w B a n V L f) (k : Nat) : RdR (w.drewN k) B a n V L f := ⟨h.hd.drewN k, fun r hr => by obtain ⟨A, c, e, h1⟩ := h.row r hr; exact ⟨A, c, e, h1.drewN k⟩⟩
theorem RdR.congr (h : RdR w B a n V L f) (e : ∀ r, r < n → ∀ i, i < L r → f r i = g r i) : RdR w B a n V L g :=
  ⟨h.hd, fun r hr => by obtain ⟨A, c, e1, h1⟩ := h.row r hr; exact ⟨A, c, e1, h1.congr fun k hk => by rw [e r hr k hk]⟩⟩
theorem RdR.nil (w : World) (B : Nat) (a : Option Addr) (V : Nat → Value) (L : Nat → Nat) (f : Nat → Nat → Int) : RdR w B a 0 V L f := ⟨fun h => absurd h (by omega), fun r h => absurd h (by omega)⟩
/-- Fewer rows. -/
theorem RdR.less (h : RdR w B a n V L f) {m : Nat} (hm : m ≤ n) : RdR w B a m V L f :=
  ⟨fun h0 => by obtain ⟨ad, e, hb, hc⟩ := h.hd (by omega); exact ⟨ad, e, hb, fun k hk => hc k (by omega)⟩, fun r hr => h.row r (by omega)⟩
/-- The cell of a row's value. -/
theorem RdR.cell {r : Nat} (h : RdR w B a n V L f) (hr : r < n) : ∃ ad A c, a = some ad ∧ ad.block < B ∧ V r = .slice A (L r) c ∧ w.cell? (ad.add r) = some (.slice A (L r) c) ∧ Rd w B A (L r) (fun i => .int .i64 (f r i)) := by
  obtain ⟨ad, e, hb, hc⟩ := h.hd (by omega)
  obtain ⟨A, c, e1, h1⟩ := h.row r hr
  exact ⟨ad, A, c, e, hb, e1, by rw [hc r hr, e1], h1⟩
end

theorem add_zero (ad : Addr) : ad.add 0 = ad := by unfold Addr.add; simp

/-! ### The block of a row's value -/
section
variable {w w' : World} {B n m : Nat} {t : TypeId} {v : Value} {f : Nat → Value}
theorem Own.keep (h : Own w B t v n f) (hk : ∀ k, v.ownBlock = some k → w'.heap[k]? = w.heap[k]?) : Own w' B t v n f := by
  obtain ⟨h1, h2⟩ := h
  refine ⟨h1, ?_⟩
  rcases h2 with h2 | ⟨g, cap, cur, hv, hg, hh, r⟩
  · exact .inl h2
  · exact .inr ⟨g, cap, cur, hv, hg, (hk g (by rw [hv]; rfl)).trans hh, r⟩
theorem Own.block (h : Own w B t v n f) {k : Nat} (hk : v.ownBlock = some k) : B ≤ k ∧ ∃ cur, w.heap[k]? = some (.cells cur t (0, 0)) := by
  rcases h.2 with ⟨rfl, _⟩ | ⟨g, cap, cur, rfl, hg, hh, _⟩
  · cases hk
  · have : g = k := by simpa [Value.ownBlock] using hk
    subst this
    exact ⟨hg, cur, hh⟩
theorem Own.lt (h : Own w B t v n f) {k : Nat} (hk : v.ownBlock = some k) : k < w.heap.size := by
  obtain ⟨_, cur, hh⟩ := h.block hk
  exact (Array.getElem?_eq_some_iff.1 hh).1
theorem Own.slice (h : Own w B t v n f) : ∃ A c, v = .slice A n c := by obtain ⟨A, c, e, _⟩ := h.made; exact ⟨A, c, e⟩
theorem Own.less (h : Own w B t v n f) {B' : Nat} (hB : B' ≤ B) : Own w B' t v n f := by
  obtain ⟨h1, h2⟩ := h
  refine ⟨h1, ?_⟩
  rcases h2 with h2 | ⟨g, cap, cur, hv, hg, r⟩
  · exact .inl h2
  · exact .inr ⟨g, cap, cur, hv, by omega, r⟩
/-- A row of one type and a block of another are apart. -/
theorem Own.ne_row {t' : TypeId} {g : Nat} {f' : Nat → Value} (h : Own w B t v n f) (hr : Row w g t' m f') (ht : t ≠ t') : v.ownBlock ≠ some g := fun e => by
  obtain ⟨_, cur, hh⟩ := h.block e
  obtain ⟨c, hb, _⟩ := hr
  rw [hh] at hb
  injection hb with hb
  injection hb with _ e2
  exact ht e2
theorem Own.ne_own {t' : TypeId} {B' : Nat} {v' : Value} {f' : Nat → Value} (h : Own w B t v n f) (hr : Own w B' t' v' m f') (ht : t ≠ t') {k : Nat} (hk : v.ownBlock = some k) : v'.ownBlock ≠ some k := fun e => by
  obtain ⟨_, cur, hh⟩ := h.block hk
  obtain ⟨_, cur', hh'⟩ := hr.block e
  rw [hh] at hh'
  injection hh' with hb
  injection hb with _ e2
  exact ht e2
end

/-! ### Rows under way: row r has L r integers f r; two rows never share a block -/
structure OwnRs (w : World) (B : Nat) (t : TypeId) (n : Nat) (V : Nat → Value) (L : Nat → Nat) (f : Nat → Nat → Int) : Prop where
  row : ∀ r, r < n → Own w B t (V r) (L r) (fun i => .int .i64 (f r i))
  apart : ∀ r s, r < n → s < n → r ≠ s → ∀ k, (V r).ownBlock = some k → (V s).ownBlock ≠ some k

section
variable {w w' : World} {B n : Nat} {t : TypeId} {V : Nat → Value} {L : Nat → Nat} {f : Nat → Nat → Int}
theorem OwnRs.keep (h : OwnRs w B t n V L f) (hk : ∀ r, r < n → ∀ k, (V r).ownBlock = some k → w'.heap[k]? = w.heap[k]?) : OwnRs w' B t n V L f :=
  ⟨fun r hr => (h.row r hr).keep (hk r hr), h.apart⟩
theorem OwnRs.step (h : OwnRs w B t n V L f) (hb : Below w.heap.size w w') : OwnRs w' B t n V L f := h.keep fun r hr k hk => hb.block k ((h.row r hr).lt hk)
theorem OwnRs.drewN (h : OwnRs w B t n V L f) (k : Nat) : OwnRs (w.drewN k) B t n V L f := ⟨fun r hr => (h.row r hr).drewN k, h.apart⟩
theorem OwnRs.alloc (h : OwnRs w B t n V L f) (o : Obj) : OwnRs (w.alloc o) B t n V L f := h.step ((Below.refl _ _).alloc (Nat.le_refl _) _)
theorem OwnRs.none (w : World) (B : Nat) (t : TypeId) (n : Nat) (f : Nat → Nat → Int) : OwnRs w B t n (fun _ => .slice none 0 0) (fun _ => 0) f :=
  ⟨fun r _ => Own.nil _ _ _ _, fun r s _ _ _ k hk => by cases hk⟩
theorem OwnRs.congrL (h : OwnRs w B t n V L f) {L' : Nat → Nat} (e : ∀ r, r < n → L r = L' r) : OwnRs w B t n V L' f := ⟨fun r hr => by rw [← e r hr]; exact h.row r hr, h.apart⟩
/-- Row c is appended to. -/
theorem OwnRs.grow (h : OwnRs w B t n V L f) {c : Nat} (hc : c < n) {v' : Value} (hg : w.grownBy w' (V c).ownBlock) (ho : Own w' B t v' (L c + 1) (fun i => .int .i64 (f c i)))
    (hat : ∀ k, v'.ownBlock = some k → (V c).ownBlock = some k ∨ w.heap.size ≤ k) : OwnRs w' B t n (fun r => if r = c then v' else V r) (fun r => if r = c then L c + 1 else L r) f := by
  refine ⟨fun r hr => ?_, fun r s hr hs hrs k hk0 => ?_⟩
  · show Own w' B t (if r = c then v' else V r) (if r = c then L c + 1 else L r) _
    by_cases e : r = c
    · subst e; simpa using ho
    · rw [if_neg e, if_neg e]
      exact (h.row r hr).keep fun k hk => hg.block k ((h.row r hr).lt hk) (fun e2 => h.apart r c hr hc e k hk e2.symm)
  · show (if s = c then v' else V s).ownBlock ≠ some k
    have hk : (if r = c then v' else V r).ownBlock = some k := hk0
    clear hk0
    by_cases e : r = c
    · subst e
      rw [if_pos rfl] at hk
      rw [if_neg (fun e => hrs e.symm)]
      rcases hat k hk with h1 | h1
      · exact h.apart r s hr hs hrs k h1
      · exact fun e2 => by have := (h.row s hs).lt e2; omega
    · rw [if_neg e] at hk
      by_cases e' : s = c
      · subst e'
        rw [if_pos rfl]
        intro e2
        rcases hat k e2 with h1 | h1
        · exact h.apart r s hr hs hrs k hk h1
        · have := (h.row r hr).lt hk; omega
      · rw [if_neg e']; exact h.apart r s hr hs hrs k hk
/-- A further row. -/
theorem OwnRs.push (h : OwnRs w B t n V L f) {v : Value} (ho : Own w B t v (L n) (fun i => .int .i64 (f n i))) (hat : ∀ r, r < n → ∀ k, (V r).ownBlock = some k → v.ownBlock ≠ some k) :
    OwnRs w B t (n + 1) (fun r => if r = n then v else V r) L f := by
  refine ⟨fun r hr => ?_, fun r s hr hs hrs k hk0 => ?_⟩
  · show Own w B t (if r = n then v else V r) _ _
    by_cases e : r = n
    · subst e; simpa using ho
    · rw [if_neg e]; exact h.row r (by omega)
  · show (if s = n then v else V s).ownBlock ≠ some k
    have hk : (if r = n then v else V r).ownBlock = some k := hk0
    clear hk0
    by_cases e : r = n
    · subst e
      rw [if_pos rfl] at hk
      rw [if_neg (fun e => hrs e.symm)]
      exact fun e2 => hat s (by omega) k e2 hk
    · rw [if_neg e] at hk
      by_cases e' : s = n
      · subst e'; rw [if_pos rfl]; exact hat r (by omega) k hk
      · rw [if_neg e']; exact h.apart r s (by omega) (by omega) hrs k hk
end

/-! ### A list of lists of the call's own -/
structure MadeR (w : World) (B : Nat) (tS tI : TypeId) (a : Option Addr) (n : Nat) (V : Nat → Value) (L : Nat → Nat) (f : Nat → Nat → Int) : Prop where
  hd : Made w B tS a n V
  rs : OwnRs w B tI n V L f

section
variable {w w' : World} {B n : Nat} {tS tI : TypeId} {a : Option Addr} {V : Nat → Value} {L : Nat → Nat} {f g : Nat → Nat → Int}
theorem MadeR.rd (h : MadeR w B tS tI a n V L f) : RdR w w.heap.size a n V L f :=
  ⟨h.hd.rd, fun r hr => by obtain ⟨A, c, e, hm⟩ := (h.rs.row r hr).made; exact ⟨A, c, e, hm.rd⟩⟩
theorem MadeR.step (h : MadeR w B tS tI a n V L f) (hb : Below w.heap.size w w') : MadeR w' B tS tI a n V L f := ⟨h.hd.step hb, h.rs.step hb⟩
theorem MadeR.drewN (h : MadeR w B tS tI a n V L f) (k : Nat) : MadeR (w.drewN k) B tS tI a n V L f := ⟨h.hd, h.rs.drewN k⟩
theorem MadeR.nil (w : World) (B : Nat) (tS tI : TypeId) (a : Option Addr) (V : Nat → Value) (L : Nat → Nat) (f : Nat → Nat → Int) : MadeR w B tS tI a 0 V L f :=
  ⟨Made.nil _ _ _ _ _, fun r h => absurd h (by omega), fun r s h => absurd h (by omega)⟩
theorem MadeR.congr (h : MadeR w B tS tI a n V L f) (e : ∀ r, r < n → ∀ i, i < L r → f r i = g r i) : MadeR w B tS tI a n V L g :=
  ⟨h.hd, fun r hr => (h.rs.row r hr).congr fun k hk => by rw [e r hr k hk], h.rs.apart⟩
theorem MadeR.less (h : MadeR w B tS tI a n V L f) {B' : Nat} (hB : B' ≤ B) : MadeR w B' tS tI a n V L f := ⟨h.hd.less hB, fun r hr => (h.rs.row r hr).less hB, h.rs.apart⟩
end

/-- What a function answers that returns a list of lists of its own and whether it could. -/
def RetsR (tS tI : TypeId) (w : World) (m : Nat) (L : Nat → Nat) (G : Nat → Nat → Int) (v : Bool) (e : Ending) (w' : World) : Prop :=
  ∃ a c V, e = .returned (.tuple #[.slice a m c, .bool v]) ∧ Below w.heap.size w w' ∧ MadeR w' w.heap.size tS tI a m V L G

/-- Appending one element: where the new list lies, besides. -/
theorem wpList_app1at {P : Program} {ops : Array Oper} {rest : List Oper} {o : Oper} {a : Act} {Q : Exit → Act → World → Prop} (W : World) (xv : Value) (hgd : o.guard = none) (s x : Operand) (t : TypeId)
    (ho : o.op = .call { callee := .builtin .append, args := #[s, x], argTypes := #[t, t] })
    (base : Nat) (e : TypeId) (z : Value) (bytes : Nat) (ht : P.underlying t = some (.slice e)) (hinfo : (P.info? e).map (fun i => (i.zero, i.size, i.bytes)) = some (some z, 1, bytes)) (hzs : z.cells.size = 1) (hby : bytes ≤ 64)
    (v : Value) (n : Nat) (f : Nat → Value) (hs : a.eval s = v) (hown : Own W base e v n f) (hx : a.eval x = .slice (some ⟨W.heap.size, 0, none⟩) 1 1) (hf : f n = xv) (h1 : xv.oneCell' = true)
    (hn : n ≤ 1000000000) (hbase : base ≤ W.heap.size)
    (h : ∀ v' w', Own w' base e v' (n + 1) f → Below base W w' → W.grownBy w' v.ownBlock → (∀ k, v'.ownBlock = some k → v.ownBlock = some k ∨ W.heap.size ≤ k) → wpList P ops Q rest (a.put o.dst v') w') :
    wpList P ops Q (o :: rest) a (W.alloc (.cells #[xv] e)) := by
  obtain ⟨i, hi, hz0, hz1, hz2⟩ := info_parts hinfo
  refine wpList_append_own_at _ hgd s x t ho base e i z 1 bytes ht hi hz0 hz1 hz2 hzs (by decide) v n _ hs (hown.alloc _) ⟨W.heap.size, 0, none⟩ 1 1 [xv] hx rfl (cell_one_new _ _ _) (by simpa using h1)
    (by unfold maxLen; omega) ?_ (by simp; omega) ?_
  · have : (n + 1) * bytes ≤ 1000000001 * 64 := Nat.mul_le_mul (by omega) hby
    omega
  · intro v' w1 hown' hgrow _ hat
    have hg : W.grownBy w1 v.ownBlock := by
      have hsz := hgrow.size
      simp at hsz
      refine ⟨hgrow.os, hgrow.tape, hgrow.output, by omega, fun k hk hne => (hgrow.block k (by simp; omega) hne).trans (Below.heap_alloc W _ k hk)⟩
    refine h v' w1 ?_ ((Below.refl _ _).grown hg hbase hown.from_) hg (fun k hk => ?_)
    · unfold Own
      rw [List.range_succ, List.map_append]
      simpa [hf] using hown'
    · rcases hat with e1 | e1
      · exact .inl (by rw [← e1]; exact hk)
      · rw [e1] at hk
        simp at hk
        exact .inr (by omega)
end Go.Proofs.Ytpanefjjghlhiaa
