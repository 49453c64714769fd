/-
  The list of rows whose first row begins with another number: what holds while its region's operations come up. No program.
-/
import Derived.Test.YtpanefjjghlhiaaFrR9
namespace Go.Proofs.Ytpanefjjghlhiaa
open Go.RowKit

theorem add_add (a : Addr) (k : Nat) : (a.add 1).add k = a.add (k + 1) := by
  unfold Addr.add
  by_cases h : k = 0
  · subst h; simp
  · simp [h]; omega
theorem Own.at1 {w : World} {B e : Nat} {x : Value} {t : TypeId} (h : At w e #[x] t) (hB : B ≤ e) : Own w B t (.slice (some ⟨e, 0, none⟩) 1 1) 1 (fun _ => x) := by
  refine ⟨by simp, .inr ⟨e, 1, #[x], rfl, hB, h, ?_⟩⟩
  refine ⟨by omega, by unfold maxLen; omega, by simp, by simp⟩
theorem grown_refl (w : World) (r : Option Nat) : w.grownBy w r := ⟨rfl, rfl, rfl, Nat.le_refl _, fun _ _ _ => rfl⟩

/-- Appending several elements, or none, as one step of a region. -/
theorem step_appMz {P : Program} {ops : Array Oper} {o : Oper} {a : Act} {K : Act → World → Prop} {Q : Exit → Act → World → Prop} {E : Prop} (w : World) (hgd : o.guard = none) (s x : Operand) (t : TypeId)
    (ho : o.op = .call { callee := .builtin .append, args := #[s, x], argTypes := #[t, t] })
    (base : Nat) (e : TypeId) (z : Value) (bytes : Nat) (ht : P.underlying t = some (.slice e)) (hinfo : (P.info? e).map (fun i => (i.zero, i.size, i.bytes)) = some (some z, 1, bytes)) (hzs : z.cells.size = 1) (hby : bytes ≤ 64)
    (vb vc n : Nat) (f g : Nat → Value) (hs : a.eval s = .slice (some ⟨vb, 0, none⟩) n vc) (hown : Own w base e (.slice (some ⟨vb, 0, none⟩) n vc) n f) (ad : Addr) (m c : Nat) (hx : a.eval x = .slice (some ad) m c) (hr : ∀ k, k < m → w.cell? (ad.add k) = some (g k)) (h1 : ∀ k, k < m → (g k).oneCell' = true)
    (hm : n + m ≤ 1000000000) (hbase : base ≤ w.heap.size)
    (h : ∀ gb cap w', Own w' base e (.slice (some ⟨gb, 0, none⟩) (n + m) cap) (n + m) (joinF n f g) → w.grownBy w' (Value.slice (some ⟨vb, 0, none⟩) n vc).ownBlock → K (a.put o.dst (.slice (some ⟨gb, 0, none⟩) (n + m) cap)) w') :
    if Region.wanted o (yielded ops a.tmps) = true then Oper.wp P o a w K Q else E := by
  by_cases hm0 : 0 < m
  · exact step_appM w hgd s x t ho base e z bytes ht hinfo hzs hby _ n f g hs hown ad m c hx hr h1 hm0 hm hbase h
  · obtain rfl : m = 0 := by omega
    obtain ⟨i, hi, hz0, hz1, hz2⟩ := info_parts hinfo
    have hcap : n ≤ vc := by
      rcases hown.2 with ⟨e1, _⟩ | ⟨g', cap', cur, e1, _, _, h3, _⟩
      · cases e1
      · injection e1 with _ _ e3
        omega
    refine step_append_room hgd s x t ho e i 1 ht hi hz1 vb 0 n vc hs ad 0 c [] hx (by simp) (by simp) (by simp) (by omega) (by simp) ?_
    refine h vb vc _ ?_ ?_
    · exact hown.congr fun k hk => by unfold joinF; rw [if_pos hk]
    · exact grown_refl w _

/-- What holds while the list with another first number is under way. -/
structure St10 (w2 : World) (ad a0 ad1 a1 : Addr) (N cc l c0 : Nat) (V g : Nat → Value) (x : Value) (b : Nat → Bool) (u : Nat → Value) (w : World) : Prop where
  bl : Below w2.heap.size w2 w
  f54 : b 1 = true → u 54 = .slice (some ad) N cc
  f55 : b 2 = true → u 55 = .pointer (some ad)
  f56 : b 3 = true → u 56 = .slice (some a0) l c0
  f57 : b 4 = true → u 57 = .slice (some a1) (l - 1) (c0 - 1)
  f53 : b 0 = true → b 5 = false → ∃ e, u 53 = .slice (some ⟨e, 0, none⟩) 1 1 ∧ w2.heap.size ≤ e ∧ At w e #[x] 3
  f58 : b 5 = true → Own w w2.heap.size 3 (u 58) l g
  f59 : b 6 = true → b 9 = false → ∃ e, u 59 = .slice (some ⟨e, 0, none⟩) 1 1 ∧ w2.heap.size ≤ e ∧ At w e #[u 58] 26
  f60 : b 7 = true → u 60 = .slice (some ad) N cc
  f61 : b 8 = true → u 61 = .slice (some ad1) (N - 1) (cc - 1)
  f62 : b 9 = true → Own w w2.heap.size 26 (u 62) N (fun r => if r = 0 then u 58 else V r)
  f10 : b 10 = true → u 10 = u 62
  ord : (b 6 = true → b 5 = true) ∧ (b 9 = true → b 6 = true) ∧ (b 10 = true → b 9 = true)

section
variable {w2 : World} {ad a0 ad1 a1 : Addr} {N cc l c0 : Nat} {V g : Nat → Value} {x : Value} {b : Nat → Bool} {u : Nat → Value} {w w' : World}
theorem St10.start (u : Nat → Value) : St10 w2 ad a0 ad1 a1 N cc l c0 V g x (fun _ => false) u w2.drew := by
  refine ⟨Below.drewS (Below.refl _ _), ?_, ?_, ?_, ?_, ?_, ?_, ?_, ?_, ?_, ?_, ?_, ?_⟩ <;> simp
theorem St10.alloc (h : St10 w2 ad a0 ad1 a1 N cc l c0 V g x b u w) (o : Obj) : St10 w2 ad a0 ad1 a1 N cc l c0 V g x b u (w.alloc o) where
  bl := Below.allocS h.bl o
  f54 := h.f54
  f55 := h.f55
  f56 := h.f56
  f57 := h.f57
  f53 p q := let ⟨e, h1, h2, h3⟩ := h.f53 p q; ⟨e, h1, h2, h3.alloc o⟩
  f58 p := (h.f58 p).alloc o
  f59 p q := let ⟨e, h1, h2, h3⟩ := h.f59 p q; ⟨e, h1, h2, h3.alloc o⟩
  f60 := h.f60
  f61 := h.f61
  f62 p := (h.f62 p).alloc o
  f10 := h.f10
  ord := h.ord
theorem St10.s53 (h : St10 w2 ad a0 ad1 a1 N cc l c0 V g x b u w) : St10 w2 ad a0 ad1 a1 N cc l c0 V g x (setF b 0 true) (setF u 53 (.slice (some ⟨w.heap.size, 0, none⟩) 1 1)) (w.alloc (.cells #[x] 3)) :=
  let k := h.alloc (.cells #[x] 3)
  { k with f53 := fun _ _ => ⟨_, rfl, h.bl.size, At.new' _ _ _ rfl⟩ }
theorem St10.s54 (h : St10 w2 ad a0 ad1 a1 N cc l c0 V g x b u w) : St10 w2 ad a0 ad1 a1 N cc l c0 V g x (setF b 1 true) (setF u 54 (.slice (some ad) N cc)) w := { h with f54 := fun _ => rfl }
theorem St10.s55 (h : St10 w2 ad a0 ad1 a1 N cc l c0 V g x b u w) : St10 w2 ad a0 ad1 a1 N cc l c0 V g x (setF b 2 true) (setF u 55 (.pointer (some ad))) w := { h with f55 := fun _ => rfl }
theorem St10.s56 (h : St10 w2 ad a0 ad1 a1 N cc l c0 V g x b u w) : St10 w2 ad a0 ad1 a1 N cc l c0 V g x (setF b 3 true) (setF u 56 (.slice (some a0) l c0)) w := { h with f56 := fun _ => rfl }
theorem St10.s57 (h : St10 w2 ad a0 ad1 a1 N cc l c0 V g x b u w) : St10 w2 ad a0 ad1 a1 N cc l c0 V g x (setF b 4 true) (setF u 57 (.slice (some a1) (l - 1) (c0 - 1))) w := { h with f57 := fun _ => rfl }
theorem St10.s60 (h : St10 w2 ad a0 ad1 a1 N cc l c0 V g x b u w) : St10 w2 ad a0 ad1 a1 N cc l c0 V g x (setF b 7 true) (setF u 60 (.slice (some ad) N cc)) w := { h with f60 := fun _ => rfl }
theorem St10.s61 (h : St10 w2 ad a0 ad1 a1 N cc l c0 V g x b u w) : St10 w2 ad a0 ad1 a1 N cc l c0 V g x (setF b 8 true) (setF u 61 (.slice (some ad1) (N - 1) (cc - 1))) w := { h with f61 := fun _ => rfl }
theorem St10.s58 (h : St10 w2 ad a0 ad1 a1 N cc l c0 V g x b u w) (h0 : b 0 = true) (h5 : b 5 = false) {v : Value} (hg : w.grownBy w' (u 53).ownBlock) (hO : Own w' w2.heap.size 3 v l g) :
    St10 w2 ad a0 ad1 a1 N cc l c0 V g x (setF b 5 true) (setF u 58 v) w' := by
  obtain ⟨e, e1, e2, e3⟩ := h.f53 h0 h5
  rw [e1] at hg
  have hb6 : b 6 ≠ true := fun q => by rw [h.ord.1 q] at h5; cases h5
  have hb9 : b 9 ≠ true := fun q => hb6 (h.ord.2.1 q)
  exact
  { bl := Below.grownS h.bl hg (Own.at1 e3 e2), f54 := h.f54, f55 := h.f55, f56 := h.f56, f57 := h.f57, f60 := h.f60, f61 := h.f61
    f53 := fun _ q => by cases q
    f58 := fun _ => hO
    f59 := fun p _ => absurd p hb6
    f62 := fun p => absurd p hb9
    f10 := h.f10
    ord := ⟨fun _ => rfl, h.ord.2⟩ }
theorem St10.s59 (h : St10 w2 ad a0 ad1 a1 N cc l c0 V g x b u w) (h5 : b 5 = true) : St10 w2 ad a0 ad1 a1 N cc l c0 V g x (setF b 6 true) (setF u 59 (.slice (some ⟨w.heap.size, 0, none⟩) 1 1)) (w.alloc (.cells #[u 58] 26)) :=
  let k := h.alloc (.cells #[u 58] 26)
  { bl := k.bl, f53 := k.f53, f54 := k.f54, f55 := k.f55, f56 := k.f56, f57 := k.f57, f58 := k.f58, f60 := k.f60, f61 := k.f61, f62 := k.f62, f10 := k.f10
    f59 := fun _ _ => ⟨_, rfl, h.bl.size, At.new' _ _ _ rfl⟩
    ord := ⟨fun _ => h5, fun _ => rfl, h.ord.2.2⟩ }
theorem St10.s62 (h : St10 w2 ad a0 ad1 a1 N cc l c0 V g x b u w) (h6 : b 6 = true) (h9 : b 9 = false) {v : Value} (hg : w.grownBy w' (u 59).ownBlock) (hO : Own w' w2.heap.size 26 v N (fun r => if r = 0 then u 58 else V r)) :
    St10 w2 ad a0 ad1 a1 N cc l c0 V g x (setF b 9 true) (setF u 62 v) w' := by
  obtain ⟨e, e1, e2, e3⟩ := h.f59 h6 h9
  have h5 := h.ord.1 h6
  rw [e1] at hg
  have hb9 : b 9 ≠ true := fun q => by rw [q] at h9; cases h9
  have hb10 : b 10 ≠ true := fun q => hb9 (h.ord.2.2 q)
  exact
  { bl := Below.grownS h.bl hg (Own.at1 e3 e2), f54 := h.f54, f55 := h.f55, f56 := h.f56, f57 := h.f57, f60 := h.f60, f61 := h.f61
    f53 := fun _ q => by have q' : b 5 = false := q; rw [h5] at q'; cases q'
    f58 := fun p => (h.f58 p).grownA hg e3 (by decide)
    f59 := fun _ q => by cases q
    f62 := fun _ => hO
    f10 := fun p => absurd p hb10
    ord := ⟨h.ord.1, fun _ => h6, fun _ => rfl⟩ }
theorem St10.s10 (h : St10 w2 ad a0 ad1 a1 N cc l c0 V g x b u w) (h9 : b 9 = true) : St10 w2 ad a0 ad1 a1 N cc l c0 V g x (setF b 10 true) (setF u 10 (u 62)) w :=
  { bl := h.bl, f53 := h.f53, f54 := h.f54, f55 := h.f55, f56 := h.f56, f57 := h.f57, f58 := h.f58, f59 := h.f59, f60 := h.f60, f61 := h.f61, f62 := h.f62
    f10 := fun _ => rfl
    ord := ⟨h.ord.1, h.ord.2.1, fun _ => h9⟩ }
end
end Go.Proofs.Ytpanefjjghlhiaa
