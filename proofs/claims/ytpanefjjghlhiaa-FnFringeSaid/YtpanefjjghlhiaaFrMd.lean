/-
  Lists of lists of integers of the call's own, in the weak form (rows that can be written), and what marking them leaves alone. Plain lemmas; no program.
-/
import Derived.Test.YtpanefjjghlhiaaRowsLib
import Derived.Test.YtpanefjjghlhiaaFrPlain
namespace Go.Proofs.Ytpanefjjghlhiaa
open Go.RowKit

theorem qda {P : Program} {f : FuncId} {args : Array Value} {w : World} {a n : Nat} {v : Value} (h : Calls P f args (w.drewN (a + n)) fun e w' => e = .returned v ∧ ∃ m, w' = (w.drewN (a + n)).drewN m) :
    Calls P f args (w.drewN (a + n)) fun e w'' => e = .returned v ∧ ∃ m, w'' = w.drewN (a + m) :=
  h.mono fun _ _ ⟨he, m, hm⟩ => ⟨he, n + m, by rw [hm, World.drewN_drewN, Nat.add_assoc]⟩

/-- The sum of the first lengths. -/
def sumL (L : Nat → Nat) : Nat → Nat
  | 0 => 0
  | k + 1 => sumL L k + L k
theorem sumL_mono (L : Nat → Nat) {n : Nat} : ∀ k, k ≤ n → sumL L k ≤ sumL L n := by
  induction n with
  | zero => intro k hk; have : k = 0 := by omega
            subst this; exact Nat.le_refl _
  | succ n ih =>
    intro k hk
    by_cases e : k = n + 1
    · subst e; exact Nat.le_refl _
    · have := ih k (by omega); simp only [sumL]; omega
theorem sumL_len {L : Nat → Nat} {n M : Nat} (h : sumL L n ≤ M) : ∀ r, r < n → L r ≤ M := fun r hr => by
  have := sumL_mono L (n := n) (r + 1) (by omega)
  simp only [sumL] at this; omega
theorem sumL_le {L : Nat → Nat} {M : Nat} : ∀ n, (∀ r, r < n → L r ≤ M) → sumL L n ≤ n * M := by
  intro n
  induction n with
  | zero => intro _; simp [sumL]
  | succ n ih =>
    intro h
    have := ih fun r hr => h r (by omega)
    have := h n (by omega)
    simp only [sumL]
    rw [Nat.add_mul]; omega

/-- Two lists of lists are equal. -/
def eqR (n n' : Nat) (L L' : Nat → Nat) (f f' : Nat → Nat → Int) : Bool := decide (n = n') && allN n (fun r => eqN (L r) (L' r) (f r) (f' r))
theorem eqR_len {n n' : Nat} {L L' : Nat → Nat} {f f' : Nat → Nat → Int} (h : n ≠ n') : eqR n n' L L' f f' = false := by simp [eqR, h]
theorem eqR_bad {n k : Nat} {L L' : Nat → Nat} {f f' : Nat → Nat → Int} (hk : k < n) (h : eqN (L k) (L' k) (f k) (f' k) = false) : eqR n n L L' f f' = false := by
  have e := allN_bad (p := fun r => eqN (L r) (L' r) (f r) (f' r)) hk h
  simp [eqR, e]
theorem eqR_good {n : Nat} {L L' : Nat → Nat} {f f' : Nat → Nat → Int} (h : ∀ k, k < n → eqN (L k) (L' k) (f k) (f' k) = true) : eqR n n L L' f f' = true := by
  have e := allN_mk (n := n) (p := fun r => eqN (L r) (L' r) (f r) (f' r)) h
  simp [eqR, e]
theorem eqR_mk {n : Nat} {L L' : Nat → Nat} {f f' : Nat → Nat → Int} (h : ∀ k, k < n → L k = L' k) (h2 : ∀ k, k < n → ∀ i, i < L k → f k i = f' k i) : eqR n n L L' f f' = true := eqR_good fun k hk => by
  rw [← h k hk]; exact eqN_good (h2 k hk)
theorem eqR_refl (n : Nat) (L : Nat → Nat) (f : Nat → Nat → Int) : eqR n n L L f f = true := eqR_mk (fun _ _ => rfl) (fun _ _ _ _ => rfl)

/-- Rows that can be written: no two share a block. -/
structure MdR (w : World) (B : Nat) (tS tI : TypeId) (a : Option Addr) (n : Nat) (V : Nat → Value) (L : Nat → Nat) (f : Nat → Nat → Int) : Prop where
  hd : Made w B tS a n V
  row : ∀ r, r < n → ∃ A c, V r = .slice A (L r) c ∧ Made w B tI A (L r) (fun i => .int .i64 (f r i))
  apart : ∀ r s, r < n → s < n → r ≠ s → 0 < L r → 0 < L s → ∀ k, (V r).ownBlock = some k → (V s).ownBlock ≠ some k

/-- Of w nothing has turned but the rows' blocks. -/
structure OnlyR (w w' : World) (n : Nat) (V : Nat → Value) (L : Nat → Nat) : Prop where
  os : w'.os = w.os
  tape : w'.tape = w.tape
  output : w'.output = w.output
  size : w'.heap.size = w.heap.size
  block : ∀ i, (∀ r, r < n → 0 < L r → (V r).ownBlock ≠ some i) → w'.heap[i]? = w.heap[i]?

section
variable {w w' w'' : World} {B n : Nat} {tS tI : TypeId} {a : Option Addr} {V : Nat → Value} {L : Nat → Nat} {f g : Nat → Nat → Int}
theorem MadeR.md (h : MadeR w B tS tI a n V L f) : MdR w B tS tI a n V L f :=
  ⟨h.hd, fun r hr => (h.rs.row r hr).made, fun r s hr hs hrs _ _ k hk => h.rs.apart r s hr hs hrs k hk⟩
theorem MdR.rd (h : MdR w B tS tI a n V L f) : RdR w w.heap.size a n V L f :=
  ⟨h.hd.rd, fun r hr => by obtain ⟨A, c, e, hm⟩ := h.row r hr; exact ⟨A, c, e, hm.rd⟩⟩
theorem MdR.step (h : MdR w B tS tI a n V L f) (hb : Below w.heap.size w w') : MdR w' B tS tI a n V L f :=
  ⟨h.hd.step hb, fun r hr => by obtain ⟨A, c, e, hm⟩ := h.row r hr; exact ⟨A, c, e, hm.step hb⟩, h.apart⟩
theorem MdR.drewN (h : MdR w B tS tI a n V L f) (k : Nat) : MdR (w.drewN k) B tS tI a n V L f := ⟨h.hd, h.row, h.apart⟩
/-- The block of a row. -/
theorem MdR.at_ (h : MdR w B tS tI a n V L f) {r : Nat} (hr : r < n) (hL : 0 < L r) : ∃ b c, V r = .slice (some ⟨b, 0, none⟩) (L r) c ∧ B ≤ b ∧ Row w b tI (L r) (fun i => .int .i64 (f r i)) := by
  obtain ⟨A, c, e, hm⟩ := h.row r hr
  obtain ⟨b, rfl, hb, hR⟩ := hm hL
  exact ⟨b, c, e, hb, hR⟩
theorem MdR.own_ge (h : MdR w B tS tI a n V L f) {r k : Nat} (hr : r < n) (hL : 0 < L r) (hk : (V r).ownBlock = some k) : B ≤ k := by
  obtain ⟨b, c, e, hb, _⟩ := h.at_ hr hL
  rw [e] at hk
  have : b = k := by simpa [Value.ownBlock] using hk
  omega
theorem MdR.own_lt (h : MdR w B tS tI a n V L f) {r k : Nat} (hr : r < n) (hL : 0 < L r) (hk : (V r).ownBlock = some k) : k < w.heap.size := by
  obtain ⟨b, c, e, _, hR⟩ := h.at_ hr hL
  rw [e] at hk
  have : b = k := by simpa [Value.ownBlock] using hk
  have := hR.lt
  omega
theorem OnlyR.refl (w : World) (n : Nat) (V : Nat → Value) (L : Nat → Nat) : OnlyR w w n V L := ⟨rfl, rfl, rfl, rfl, fun _ _ => rfl⟩
theorem OnlyR.below (h : OnlyR w w' n V L) {B : Nat} (hB : ∀ r, r < n → 0 < L r → ∀ k, (V r).ownBlock = some k → B ≤ k) : Below B w w' :=
  ⟨h.os, h.tape, h.output, by rw [h.size]; exact Nat.le_refl _, fun k hk => h.block k (fun r hr hL e => by have := hB r hr hL k e; omega)⟩
theorem OnlyR.below_md (h : OnlyR w w' n V L) (hm : MdR w B tS tI a n V L f) {B' : Nat} (hB : B' ≤ B) : Below B' w w' := h.below fun r hr hL k hk => by have := hm.own_ge hr hL hk; omega
/-- Rows from B on keep while rows below B are written. -/
theorem MdR.only_lt (h : MdR w B tS tI a n V L f) {n' : Nat} {V' : Nat → Value} {L' : Nat → Nat} (ho : OnlyR w w' n' V' L') (hlt : ∀ r, r < n' → 0 < L' r → ∀ k, (V' r).ownBlock = some k → k < B) : MdR w' B tS tI a n V L f :=
  ⟨fun hn => by
    obtain ⟨g, rfl, hg, hR⟩ := h.hd hn
    exact ⟨g, rfl, hg, hR.of_block (ho.block g fun r hr hL e => by have := hlt r hr hL g e; omega)⟩,
   fun r hr => by
    obtain ⟨A, c, e, hm⟩ := h.row r hr
    refine ⟨A, c, e, fun hL => ?_⟩
    obtain ⟨g, rfl, hg, hR⟩ := hm hL
    exact ⟨g, rfl, hg, hR.of_block (ho.block g fun r hr hL e => by have := hlt r hr hL g e; omega)⟩, h.apart⟩
/-- One row is marked. -/
theorem MdR.mark (h : MdR w B tS tI a n V L f) {k c : Nat} {A : Option Addr} (hk : k < n) (hV : V k = .slice A (L k) c) (ht : tS ≠ tI) (ho : Only w w' (if L k = 0 then none else A)) (hm : Made w' B tI A (L k) (fun i => .int .i64 (g k i)))
    (hg : ∀ r, r ≠ k → g r = f r) : MdR w' B tS tI a n V L g := by
  by_cases h0 : L k = 0
  · rw [if_pos h0] at ho
    have hs : ∀ i, w'.heap[i]? = w.heap[i]? := fun i => ho.block i (fun ad e => by cases e)
    refine ⟨fun hn => ?_, fun r hr => ?_, h.apart⟩
    · obtain ⟨b, rfl, hb, hR⟩ := h.hd hn
      exact ⟨b, rfl, hb, hR.of_block (hs b)⟩
    · by_cases e : r = k
      · subst e; exact ⟨A, c, hV, hm⟩
      · obtain ⟨A', c', e1, hm'⟩ := h.row r hr
        refine ⟨A', c', e1, fun hL => ?_⟩
        obtain ⟨b, rfl, hb, hR⟩ := hm' hL
        rw [hg r e]
        exact ⟨b, rfl, hb, hR.of_block (hs b)⟩
  · rw [if_neg h0] at ho
    obtain ⟨b, cc, e1, hb, hR⟩ := h.at_ hk (by omega)
    rw [hV] at e1
    obtain rfl : A = some ⟨b, 0, none⟩ := by injection e1
    refine ⟨fun hn => ?_, fun r hr => ?_, h.apart⟩
    · obtain ⟨b', rfl, hb', hR'⟩ := h.hd hn
      refine ⟨b', rfl, hb', hR'.of_block (ho.block b' fun ad e => ?_)⟩
      injection e with e
      subst e
      exact fun e2 => hR'.ne hR ht e2.symm
    · by_cases e : r = k
      · subst e; exact ⟨_, c, hV, hm⟩
      · obtain ⟨A', c', e1', hm'⟩ := h.row r hr
        refine ⟨A', c', e1', fun hL => ?_⟩
        obtain ⟨b', rfl, hb', hR'⟩ := hm' hL
        rw [hg r e]
        refine ⟨b', rfl, hb', hR'.of_block (ho.block b' fun ad e2 => ?_)⟩
        injection e2 with e2
        subst e2
        intro e3
        have e3 : b = b' := e3
        subst e3
        exact h.apart r k hr hk e hL (by omega) b (by rw [e1']; rfl) (by rw [hV]; rfl)
theorem OnlyR.mark (h : OnlyR w w' n V L) {k c : Nat} {A : Option Addr} (hk : k < n) (hV : V k = .slice A (L k) c) (ho : Only w' w'' (if L k = 0 then none else A)) : OnlyR w w'' n V L :=
  ⟨ho.os.trans h.os, ho.tape.trans h.tape, ho.output.trans h.output, ho.size.trans h.size, fun i hi => (ho.block i fun ad e => by
    by_cases h0 : L k = 0
    · rw [if_pos h0] at e; cases e
    · rw [if_neg h0] at e
      subst e
      have := hi k hk (by omega)
      rw [hV] at this
      exact fun e2 => this (by rw [← e2]; rfl)).trans (h.block i hi)⟩
theorem MdR.congr (h : MdR w B tS tI a n V L f) (e : ∀ r, r < n → ∀ i, i < L r → f r i = g r i) : MdR w B tS tI a n V L g :=
  ⟨h.hd, fun r hr => by obtain ⟨A, c, e1, hm⟩ := h.row r hr; exact ⟨A, c, e1, hm.congr fun i hi => by rw [e r hr i hi]⟩, h.apart⟩
end
end Go.Proofs.Ytpanefjjghlhiaa
