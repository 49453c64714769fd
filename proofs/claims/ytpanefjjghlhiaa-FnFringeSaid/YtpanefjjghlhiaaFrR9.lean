/-
  The list of rows that gets a further, longer row: what holds while its region's operations come up in whatever order. No program.
-/
import Derived.Test.YtpanefjjghlhiaaInv
import Derived.Test.YtpanefjjghlhiaaFrDrawF
namespace Go.Proofs.Ytpanefjjghlhiaa
open Go.RowKit

section
variable {w w' : World} {e : Nat} {cs : Array Value} {t : TypeId}
theorem At.grownO {B n : Nat} {t' : TypeId} {v' : Value} {f' : Nat → Value} (hg : w.grownBy w' v'.ownBlock) (h : At w e cs t) (h' : Own w B t' v' n f') (ht : t ≠ t') : At w' e cs t := by
  refine (hg.block e h.lt fun q => ?_).trans h
  obtain ⟨_, cur, hh⟩ := h'.block q.symm
  unfold At at h
  rw [hh] at h
  injection h with h1
  injection h1 with _ h3
  exact ht h3.symm
theorem Own.grownA {B n e' : Nat} {v : Value} {f : Nat → Value} {cs' : Array Value} {t' : TypeId} {m c : Nat} (hg : w.grownBy w' (Value.slice (some ⟨e', 0, none⟩) m c).ownBlock) (h : Own w B t v n f) (h' : At w e' cs' t') (ht : t ≠ t') : Own w' B t v n f := by
  refine h.keep fun k hk => hg.block k (h.lt hk) fun q => ?_
  have e1 : k = e' := by simpa [Value.ownBlock] using q
  subst e1
  obtain ⟨_, cur, hh⟩ := h.block hk
  unfold At at h'
  rw [hh] at h'
  injection h' with h1
  injection h1 with _ h3
  exact ht h3
end

/-- What holds while the list with a further, longer row is under way: b k: operation k has come up; u k: what stands in slot k. -/
structure St9 (w2 : World) (ad a0 : Addr) (N cc l c0 : Nat) (V g g' : Nat → Value) (x : Value) (b : Nat → Bool) (u : Nat → Value) (w : World) : Prop where
  bl : Below w2.heap.size w2 w
  f42 : b 1 = true → u 42 = .slice (some ad) N cc
  f45 : b 4 = true → u 45 = .slice (some ad) N cc
  f46 : b 5 = true → u 46 = .pointer (some ad)
  f47 : b 6 = true → u 47 = .slice (some a0) l c0
  f41 : b 0 = true → b 2 = false → ∃ e, u 41 = .slice (some ⟨e, 0, none⟩) 0 0 ∧ w2.heap.size ≤ e ∧ At w e #[] 26
  f43 : b 2 = true → b 11 = false → Own w w2.heap.size 26 (u 43) N V
  f44 : b 3 = true → b 7 = false → ∃ e, u 44 = .slice (some ⟨e, 0, none⟩) 0 0 ∧ w2.heap.size ≤ e ∧ At w e #[] 3
  f48 : b 7 = true → b 9 = false → Own w w2.heap.size 3 (u 48) l g
  f49 : b 8 = true → b 9 = false → ∃ e, u 49 = .slice (some ⟨e, 0, none⟩) 1 1 ∧ w2.heap.size ≤ e ∧ At w e #[x] 3
  f50 : b 9 = true → Own w w2.heap.size 3 (u 50) (l + 1) g'
  f51 : b 10 = true → b 11 = false → ∃ e, u 51 = .slice (some ⟨e, 0, none⟩) 1 1 ∧ w2.heap.size ≤ e ∧ At w e #[u 50] 26
  f52 : b 11 = true → Own w w2.heap.size 26 (u 52) (N + 1) (fun r => if r = N then u 50 else V r)
  f9 : b 12 = true → u 9 = u 52
  ord : (b 7 = true → b 2 = true) ∧ (b 9 = true → b 7 = true) ∧ (b 10 = true → b 9 = true) ∧ (b 11 = true → b 10 = true) ∧ (b 12 = true → b 11 = true)

section
variable {w2 : World} {ad a0 : Addr} {N cc l c0 : Nat} {V g g' : Nat → Value} {x : Value} {b : Nat → Bool} {u : Nat → Value} {w w' : World}
theorem St9.start (u : Nat → Value) : St9 w2 ad a0 N cc l c0 V g g' x (fun _ => false) u w2.drew := by
  refine ⟨Below.drewS (Below.refl _ _), ?_, ?_, ?_, ?_, ?_, ?_, ?_, ?_, ?_, ?_, ?_, ?_, ?_, ?_⟩ <;> simp
/-- A block more. -/
theorem St9.alloc (h : St9 w2 ad a0 N cc l c0 V g g' x b u w) (o : Obj) : St9 w2 ad a0 N cc l c0 V g g' x b u (w.alloc o) where
  bl := Below.allocS h.bl o
  f42 := h.f42
  f45 := h.f45
  f46 := h.f46
  f47 := h.f47
  f41 p q := let ⟨e, h1, h2, h3⟩ := h.f41 p q; ⟨e, h1, h2, h3.alloc o⟩
  f43 p q := (h.f43 p q).alloc o
  f44 p q := let ⟨e, h1, h2, h3⟩ := h.f44 p q; ⟨e, h1, h2, h3.alloc o⟩
  f48 p q := (h.f48 p q).alloc o
  f49 p q := let ⟨e, h1, h2, h3⟩ := h.f49 p q; ⟨e, h1, h2, h3.alloc o⟩
  f50 p := (h.f50 p).alloc o
  f51 p q := let ⟨e, h1, h2, h3⟩ := h.f51 p q; ⟨e, h1, h2, h3.alloc o⟩
  f52 p := (h.f52 p).alloc o
  f9 := h.f9
  ord := h.ord
theorem St9.s41 (h : St9 w2 ad a0 N cc l c0 V g g' x b u w) : St9 w2 ad a0 N cc l c0 V g g' x (setF b 0 true) (setF u 41 (.slice (some ⟨w.heap.size, 0, none⟩) 0 0)) (w.alloc (.cells #[] 26)) :=
  let k := h.alloc (.cells #[] 26)
  { bl := k.bl, f42 := k.f42, f45 := k.f45, f46 := k.f46, f47 := k.f47, f43 := k.f43, f44 := k.f44, f48 := k.f48, f49 := k.f49, f50 := k.f50, f51 := k.f51, f52 := k.f52, f9 := k.f9, ord := k.ord
    f41 := fun _ _ => ⟨_, rfl, h.bl.size, At.new' _ _ _ rfl⟩ }
theorem St9.s42 (h : St9 w2 ad a0 N cc l c0 V g g' x b u w) : St9 w2 ad a0 N cc l c0 V g g' x (setF b 1 true) (setF u 42 (.slice (some ad) N cc)) w :=
  { bl := h.bl, f41 := h.f41, f45 := h.f45, f46 := h.f46, f47 := h.f47, f43 := h.f43, f44 := h.f44, f48 := h.f48, f49 := h.f49, f50 := h.f50, f51 := h.f51, f52 := h.f52, f9 := h.f9, ord := h.ord
    f42 := fun _ => rfl }
theorem St9.s43 (h : St9 w2 ad a0 N cc l c0 V g g' x b u w) (h0 : b 0 = true) (h2 : b 2 = false) {v : Value} (hg : w.grownBy w' (u 41).ownBlock) (hO : Own w' w2.heap.size 26 v N V) :
    St9 w2 ad a0 N cc l c0 V g g' x (setF b 2 true) (setF u 43 v) w' := by
  obtain ⟨e, e1, e2, e3⟩ := h.f41 h0 h2
  rw [e1] at hg
  have hb7 : b 7 ≠ true := fun q => by rw [h.ord.1 q] at h2; cases h2
  have hb9 : b 9 ≠ true := fun q => hb7 (h.ord.2.1 q)
  have hb10 : b 10 ≠ true := fun q => hb9 (h.ord.2.2.1 q)
  have hb11 : b 11 ≠ true := fun q => hb10 (h.ord.2.2.2.1 q)
  exact
  { bl := Below.grownS h.bl hg (Own.at_ (f := V) e3 e2), f42 := h.f42, f45 := h.f45, f46 := h.f46, f47 := h.f47
    f41 := fun _ q => by cases q
    f43 := fun _ _ => hO
    f44 := fun p q => let ⟨i, h1, h2, h3⟩ := h.f44 p q; ⟨i, h1, h2, h3.grown hg e3 (.inr (by decide))⟩
    f48 := fun p q => absurd p hb7
    f49 := fun p q => let ⟨i, h1, h2, h3⟩ := h.f49 p q; ⟨i, h1, h2, h3.grown hg e3 (.inr (by decide))⟩
    f50 := fun p => absurd p hb9
    f51 := fun p _ => absurd p hb10
    f52 := fun p => absurd p hb11
    f9 := h.f9
    ord := ⟨fun _ => rfl, h.ord.2⟩ }
theorem St9.s44 (h : St9 w2 ad a0 N cc l c0 V g g' x b u w) : St9 w2 ad a0 N cc l c0 V g g' x (setF b 3 true) (setF u 44 (.slice (some ⟨w.heap.size, 0, none⟩) 0 0)) (w.alloc (.cells #[] 3)) :=
  let k := h.alloc (.cells #[] 3)
  { bl := k.bl, f42 := k.f42, f45 := k.f45, f46 := k.f46, f47 := k.f47, f43 := k.f43, f41 := k.f41, f48 := k.f48, f49 := k.f49, f50 := k.f50, f51 := k.f51, f52 := k.f52, f9 := k.f9, ord := k.ord
    f44 := fun _ _ => ⟨_, rfl, h.bl.size, At.new' _ _ _ rfl⟩ }
theorem St9.s45 (h : St9 w2 ad a0 N cc l c0 V g g' x b u w) : St9 w2 ad a0 N cc l c0 V g g' x (setF b 4 true) (setF u 45 (.slice (some ad) N cc)) w :=
  { bl := h.bl, f41 := h.f41, f42 := h.f42, f46 := h.f46, f47 := h.f47, f43 := h.f43, f44 := h.f44, f48 := h.f48, f49 := h.f49, f50 := h.f50, f51 := h.f51, f52 := h.f52, f9 := h.f9, ord := h.ord
    f45 := fun _ => rfl }
theorem St9.s46 (h : St9 w2 ad a0 N cc l c0 V g g' x b u w) : St9 w2 ad a0 N cc l c0 V g g' x (setF b 5 true) (setF u 46 (.pointer (some ad))) w :=
  { bl := h.bl, f41 := h.f41, f42 := h.f42, f45 := h.f45, f47 := h.f47, f43 := h.f43, f44 := h.f44, f48 := h.f48, f49 := h.f49, f50 := h.f50, f51 := h.f51, f52 := h.f52, f9 := h.f9, ord := h.ord
    f46 := fun _ => rfl }
theorem St9.s47 (h : St9 w2 ad a0 N cc l c0 V g g' x b u w) : St9 w2 ad a0 N cc l c0 V g g' x (setF b 6 true) (setF u 47 (.slice (some a0) l c0)) w :=
  { bl := h.bl, f41 := h.f41, f42 := h.f42, f45 := h.f45, f46 := h.f46, f43 := h.f43, f44 := h.f44, f48 := h.f48, f49 := h.f49, f50 := h.f50, f51 := h.f51, f52 := h.f52, f9 := h.f9, ord := h.ord
    f47 := fun _ => rfl }
theorem St9.s48 (h : St9 w2 ad a0 N cc l c0 V g g' x b u w) (h2 : b 2 = true) (h3 : b 3 = true) (h7 : b 7 = false) {v : Value} (hg : w.grownBy w' (u 44).ownBlock) (hO : Own w' w2.heap.size 3 v l g) :
    St9 w2 ad a0 N cc l c0 V g g' x (setF b 7 true) (setF u 48 v) w' := by
  obtain ⟨e, e1, e2, e3⟩ := h.f44 h3 h7
  rw [e1] at hg
  have hb7 : b 7 ≠ true := fun q => by rw [q] at h7; cases h7
  have hb9 : b 9 ≠ true := fun q => hb7 (h.ord.2.1 q)
  have hb10 : b 10 ≠ true := fun q => hb9 (h.ord.2.2.1 q)
  have hb11 : b 11 ≠ true := fun q => hb10 (h.ord.2.2.2.1 q)
  exact
  { bl := Below.grownS h.bl hg (Own.at_ (f := V) e3 e2), f42 := h.f42, f45 := h.f45, f46 := h.f46, f47 := h.f47
    f41 := fun p q => let ⟨i, h1, h2, h3⟩ := h.f41 p q; ⟨i, h1, h2, h3.grown hg e3 (.inr (by decide))⟩
    f43 := fun p q => (h.f43 p q).grownA hg e3 (by decide)
    f44 := fun _ q => by cases q
    f48 := fun _ _ => hO
    f49 := fun p q => let ⟨i, h1, h2, h3⟩ := h.f49 p q; ⟨i, h1, h2, h3.grown hg e3 (.inl (by simp))⟩
    f50 := fun p => absurd p hb9
    f51 := fun p _ => absurd p hb10
    f52 := fun p => absurd p hb11
    f9 := h.f9
    ord := ⟨fun _ => h2, fun _ => rfl, h.ord.2.2⟩ }
theorem St9.s49 (h : St9 w2 ad a0 N cc l c0 V g g' x b u w) : St9 w2 ad a0 N cc l c0 V g g' x (setF b 8 true) (setF u 49 (.slice (some ⟨w.heap.size, 0, none⟩) 1 1)) (w.alloc (.cells #[x] 3)) :=
  let k := h.alloc (.cells #[x] 3)
  { bl := k.bl, f42 := k.f42, f45 := k.f45, f46 := k.f46, f47 := k.f47, f43 := k.f43, f41 := k.f41, f44 := k.f44, f48 := k.f48, f50 := k.f50, f51 := k.f51, f52 := k.f52, f9 := k.f9, ord := k.ord
    f49 := fun _ _ => ⟨_, rfl, h.bl.size, At.new' _ _ _ rfl⟩ }
theorem St9.s50 (h : St9 w2 ad a0 N cc l c0 V g g' x b u w) (h7 : b 7 = true) (h9 : b 9 = false) {v : Value} (hg : w.grownBy w' (u 48).ownBlock) (hO : Own w' w2.heap.size 3 v (l + 1) g') :
    St9 w2 ad a0 N cc l c0 V g g' x (setF b 9 true) (setF u 50 v) w' := by
  have e3 := h.f48 h7 h9
  have hb9 : b 9 ≠ true := fun q => by rw [q] at h9; cases h9
  have hb10 : b 10 ≠ true := fun q => hb9 (h.ord.2.2.1 q)
  have hb11 : b 11 ≠ true := fun q => hb10 (h.ord.2.2.2.1 q)
  exact
  { bl := Below.grownS h.bl hg e3, f42 := h.f42, f45 := h.f45, f46 := h.f46, f47 := h.f47
    f41 := fun p q => let ⟨i, h1, h2, h3⟩ := h.f41 p q; ⟨i, h1, h2, h3.grownO hg e3 (by decide)⟩
    f43 := fun p q => Own.grownT hg (h.f43 p q) e3 (by decide)
    f44 := fun _ q => by have q' : b 7 = false := q; rw [h7] at q'; cases q'
    f48 := fun _ q => by cases q
    f49 := fun _ q => by cases q
    f50 := fun _ => hO
    f51 := fun p _ => absurd p hb10
    f52 := fun p => absurd p hb11
    f9 := h.f9
    ord := ⟨h.ord.1, fun _ => h7, fun _ => rfl, h.ord.2.2.2⟩ }
theorem St9.s51 (h : St9 w2 ad a0 N cc l c0 V g g' x b u w) (h9 : b 9 = true) : St9 w2 ad a0 N cc l c0 V g g' x (setF b 10 true) (setF u 51 (.slice (some ⟨w.heap.size, 0, none⟩) 1 1)) (w.alloc (.cells #[u 50] 26)) :=
  let k := h.alloc (.cells #[u 50] 26)
  { bl := k.bl, f42 := k.f42, f45 := k.f45, f46 := k.f46, f47 := k.f47, f43 := k.f43, f41 := k.f41, f44 := k.f44, f48 := k.f48, f49 := k.f49, f50 := k.f50, f52 := k.f52, f9 := k.f9
    ord := ⟨h.ord.1, h.ord.2.1, fun _ => h9, fun _ => rfl, h.ord.2.2.2.2⟩
    f51 := fun _ _ => ⟨_, rfl, h.bl.size, At.new' _ _ _ rfl⟩ }
theorem St9.s52 (h : St9 w2 ad a0 N cc l c0 V g g' x b u w) (h10 : b 10 = true) (h11 : b 11 = false) {v : Value} (hg : w.grownBy w' (u 43).ownBlock) (hO : Own w' w2.heap.size 26 v (N + 1) (fun r => if r = N then u 50 else V r)) :
    St9 w2 ad a0 N cc l c0 V g g' x (setF b 11 true) (setF u 52 v) w' := by
  have h9 := h.ord.2.2.1 h10
  have h7 := h.ord.2.1 h9
  have h2 := h.ord.1 h7
  have e3 := h.f43 h2 h11
  have hb11 : b 11 ≠ true := fun q => by rw [q] at h11; cases h11
  have hb12 : b 12 ≠ true := fun q => hb11 (h.ord.2.2.2.2 q)
  exact
  { bl := Below.grownS h.bl hg e3, f42 := h.f42, f45 := h.f45, f46 := h.f46, f47 := h.f47
    f41 := fun _ q => by have q' : b 2 = false := q; rw [h2] at q'; cases q'
    f43 := fun _ q => by cases q
    f44 := fun _ q => by have q' : b 7 = false := q; rw [h7] at q'; cases q'
    f48 := fun _ q => by have q' : b 9 = false := q; rw [h9] at q'; cases q'
    f49 := fun _ q => by have q' : b 9 = false := q; rw [h9] at q'; cases q'
    f50 := fun p => Own.grownT hg (h.f50 p) e3 (by decide)
    f51 := fun _ q => by cases q
    f52 := fun _ => hO
    f9 := fun p => absurd p hb12
    ord := ⟨h.ord.1, h.ord.2.1, h.ord.2.2.1, fun _ => h10, fun _ => rfl⟩ }
theorem St9.s9 (h : St9 w2 ad a0 N cc l c0 V g g' x b u w) (h11 : b 11 = true) : St9 w2 ad a0 N cc l c0 V g g' x (setF b 12 true) (setF u 9 (u 52)) w :=
  { bl := h.bl, f41 := h.f41, f42 := h.f42, f45 := h.f45, f46 := h.f46, f47 := h.f47, f43 := h.f43, f44 := h.f44, f48 := h.f48, f49 := h.f49, f50 := h.f50, f51 := h.f51, f52 := h.f52
    f9 := fun _ => rfl
    ord := ⟨h.ord.1, h.ord.2.1, h.ord.2.2.1, h.ord.2.2.2.1, fun _ => h11⟩ }
end
end Go.Proofs.Ytpanefjjghlhiaa
