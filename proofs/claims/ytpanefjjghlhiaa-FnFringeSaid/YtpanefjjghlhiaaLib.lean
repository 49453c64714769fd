/-
  Words for memory that all proofs of this seat share: a slice that reads as a function of the index, and a row of the call's own. Plain lemmas; no program.
-/
import Derived.WalkKit
import Derived.Below
import Derived.OwnWalk
import Derived.Laws.OwnMore
import Derived.Deep.Draws
import Derived.Deep.OwnRows
import Derived.Laws.Rows
namespace Go.Proofs.Ytpanefjjghlhiaa
open Go.RowKit

theorem below_drewN {B : Nat} {a w : World} (h : Below B a w) (n : Nat) : Below B a (w.drewN n) := ⟨h.os, h.tape, h.output, h.size, h.block⟩
theorem below_size {w w' : World} (h : Below w.heap.size w w') : w.heap.size ≤ w'.heap.size := h.size
theorem below_seq {w a b : World} (h : Below w.heap.size w a) (k : Below a.heap.size a b) : Below w.heap.size w b := h.trans (k.mono h.size)

theorem ret_int {k : IntKind} {a b : Int} (h : a = b) : Ending.returned (.int k a) = .returned (.int k b) := by rw [h]
theorem ret_bool {a b : Bool} (h : b = a) : Ending.returned (.bool a) = .returned (.bool b) := by rw [h]
theorem drew2 (w : World) (m n : Nat) : ∃ k, (w.drewN m).drewN n = w.drewN k := ⟨_, World.drewN_drewN _ _ _⟩

/-- A callee that only computes, met in a region that reads alone. -/
theorem qs {P : Program} {f : FuncId} {args : Array Value} {w : World} {n : Nat} {v : Value} (h : Calls P f args (w.drewN n) fun e w' => e = .returned v ∧ w.drewN n = w') :
    Calls P f args (w.drewN n) fun e w'' => e = .returned v ∧ ∃ m, w'' = w.drewN m := h.mono fun _ _ ⟨he, hm⟩ => ⟨he, n, hm.symm⟩
theorem qsa {P : Program} {f : FuncId} {args : Array Value} {w : World} {a n : Nat} {v : Value} (h : Calls P f args (w.drewN (a + n)) fun e w' => e = .returned v ∧ w.drewN (a + n) = w') :
    Calls P f args (w.drewN (a + n)) fun e w'' => e = .returned v ∧ ∃ m, w'' = w.drewN (a + m) := h.mono fun _ _ ⟨he, hm⟩ => ⟨he, n, hm.symm⟩

/-! ### Rd: the slice's cells (one cell each) read as f -/
def Rd (w : World) (B : Nat) (A : Option Addr) (n : Nat) (f : Nat → Value) : Prop :=
  0 < n → ∃ ad : Addr, A = some ad ∧ ad.block < B ∧ ∀ k, k < n → w.cell? (ad.add k) = some (f k)

theorem block_add (a : Addr) (n : Nat) : (a.add n).block = a.block := by unfold Addr.add; split <;> rfl

section
variable {w w' : World} {B B' n : Nat} {A : Option Addr} {f g : Nat → Value}
theorem Rd.at_ {k : Nat} (h : Rd w B A n f) (hk : k < n) : ∃ ad : Addr, A = some ad ∧ ad.block < B ∧ ∀ j, j < n → w.cell? (ad.add j) = some (f j) := h (by omega)
theorem Rd.keep (h : Rd w B A n f) (hk : ∀ p : Addr, p.block < B → w'.cell? p = w.cell? p) : Rd w' B A n f := fun hn => by
  obtain ⟨ad, e, hb, hc⟩ := h hn
  exact ⟨ad, e, hb, fun k hkn => (hk _ (by rw [block_add]; exact hb)).trans (hc k hkn)⟩
theorem Rd.more (h : Rd w B A n f) (hB : B ≤ B') : Rd w B' A n f := fun hn => by
  obtain ⟨ad, e, hb, hc⟩ := h hn
  exact ⟨ad, e, by omega, hc⟩
theorem Rd.below (h : Rd w B A n f) (hb : Below B w w') : Rd w' B A n f := h.keep fun _ hp => hb.cell hp
/-- From a call to the next: what lay below the heap's size reads on, below the new size. -/
theorem Rd.step (h : Rd w w.heap.size A n f) (hb : Below w.heap.size w w') : Rd w' w'.heap.size A n f := (h.below hb).more hb.size
theorem Rd.drewN (h : Rd w B A n f) (k : Nat) : Rd (w.drewN k) B A n f := h
theorem Rd.congr (h : Rd w B A n f) (e : ∀ k, k < n → f k = g k) : Rd w B A n g := fun hn => by
  obtain ⟨ad, e1, hb, hc⟩ := h hn
  exact ⟨ad, e1, hb, fun k hk => by rw [hc k hk, e k hk]⟩
end

/-! ### Row: block g, of element type t, not frozen, begins with the cells f 0 .. f (n-1) -/
def Row (w : World) (g : Nat) (t : TypeId) (n : Nat) (f : Nat → Value) : Prop :=
  ∃ c : Array Value, w.heap[g]? = some (.cells c t (0, 0)) ∧ ∀ i, i < n → c[i]? = some (f i)

section
variable {w w' : World} {g n : Nat} {t : TypeId} {f f' : Nat → Value}
theorem Row.cell (h : Row w g t n f) {i : Nat} (hi : i < n) : w.cell? ⟨g, i, none⟩ = some (f i) := by
  obtain ⟨c, hb, hc⟩ := h
  simp [World.cell?, hb, hc i hi]
theorem Row.frozen (h : Row w g t n f) (i : Nat) : w.frozen? ⟨g, i, none⟩ = false := by
  obtain ⟨c, hb, _⟩ := h
  simp [World.frozen?, hb]
theorem Row.lt (h : Row w g t n f) : g < w.heap.size := by
  obtain ⟨c, hb, _⟩ := h
  exact (Array.getElem?_eq_some_iff.1 hb).1
theorem Row.congr (h : Row w g t n f) (e : ∀ i, i < n → f i = f' i) : Row w g t n f' := by
  obtain ⟨c, hb, hc⟩ := h
  exact ⟨c, hb, fun i hi => by rw [hc i hi, e i hi]⟩
theorem Row.of_block (h : Row w g t n f) (e : w'.heap[g]? = w.heap[g]?) : Row w' g t n f := by
  obtain ⟨c, hb, hc⟩ := h
  exact ⟨c, e.trans hb, hc⟩
theorem Row.below {B : Nat} (h : Row w g t n f) (hb : Below B w w') (hg : g < B) : Row w' g t n f := h.of_block (hb.block g hg)
theorem Row.step (h : Row w g t n f) (hb : Below w.heap.size w w') : Row w' g t n f := h.below hb h.lt
theorem Row.alloc (h : Row w g t n f) (o : Obj) : Row (w.alloc o) g t n f := h.of_block (Below.heap_alloc w o g h.lt)
theorem Row.drewN (h : Row w g t n f) (k : Nat) : Row (w.drewN k) g t n f := h
theorem Row.drew (h : Row w g t n f) : Row w.drew g t n f := h
theorem Row.set (h : Row w g t n f) (i : Nat) (v : Value) : Row (w.setCell ⟨g, i, none⟩ v) g t n (fun j => if j = i then v else f j) := by
  obtain ⟨c, hb, hc⟩ := h
  refine ⟨c.setIfInBounds i v, by simp [World.setCell, Array.getElem?_modify, hb], fun j hj => ?_⟩
  rw [Array.getElem?_setIfInBounds]
  have hcj := hc j hj
  have hlt : j < c.size := (Array.getElem?_eq_some_iff.1 hcj).1
  by_cases e : j = i
  · subst e; simp [hlt]
  · rw [if_neg (fun h => e h.symm)]
    show c[j]? = some (if j = i then v else f j)
    rw [if_neg e]; exact hcj
theorem Row.far (h : Row w g t n f) {p : Addr} (hp : g ≠ p.block) (v : Value) : Row (w.setCell p v) g t n f := h.of_block (Below.heap_setCell w p v g hp)
theorem Row.less (h : Row w g t n f) {m : Nat} (hm : m ≤ n) : Row w g t m f := by
  obtain ⟨c, hb, hc⟩ := h
  exact ⟨c, hb, fun i hi => hc i (by omega)⟩
theorem Row.of_is (h : w.rowIs g t n f) : Row w g t n f := by
  obtain ⟨c, hb, _, hc⟩ := h
  exact ⟨c, hb, hc⟩
theorem Row.made (w : World) (z : Value) (n : Nat) (t : TypeId) : Row (w.alloc (.cells (madeCells #[z] n) t)) w.heap.size t n (fun _ => z) := Row.of_is (World.rowIs_made w z n t)
theorem Row.rd (h : Row w g t n f) {B : Nat} (hB : g < B) : Rd w B (some ⟨g, 0, none⟩) n f := fun _ =>
  ⟨_, rfl, hB, fun k hk => by
    rw [show (⟨g, 0, none⟩ : Addr).add k = ⟨g, k, none⟩ from by unfold Addr.add; split <;> simp_all]
    exact h.cell hk⟩
theorem Row.ne {g' n' : Nat} {t' : TypeId} (h : Row w g t n f) (h' : Row w g' t' n' f') (ht : t ≠ t') : g ≠ g' := by
  rintro rfl
  obtain ⟨c, hb, _⟩ := h
  obtain ⟨c', hb', _⟩ := h'
  rw [hb] at hb'
  injection hb' with hb'
  injection hb' with _ e
  exact ht e
end

/-! ### Made: the slice value v is the call's own (from block B on): n elements of one cell, f -/
def Made (w : World) (B : Nat) (t : TypeId) (A : Option Addr) (n : Nat) (f : Nat → Value) : Prop :=
  0 < n → ∃ g, A = some ⟨g, 0, none⟩ ∧ B ≤ g ∧ Row w g t n f

section
variable {w w' : World} {B n : Nat} {A : Option Addr} {t : TypeId} {f f' : Nat → Value}
theorem Made.rd (h : Made w B t A n f) : Rd w w.heap.size A n f := fun hn => by
  obtain ⟨g, rfl, _, hr⟩ := h hn
  exact hr.rd hr.lt hn
theorem Made.step (h : Made w B t A n f) (hb : Below w.heap.size w w') : Made w' B t A n f := fun hn => by
  obtain ⟨g, rfl, hg, hr⟩ := h hn
  exact ⟨g, rfl, hg, hr.step hb⟩
theorem Made.congr (h : Made w B t A n f) (e : ∀ i, i < n → f i = f' i) : Made w B t A n f' := fun hn => by
  obtain ⟨g, rfl, hg, hr⟩ := h hn
  exact ⟨g, rfl, hg, hr.congr e⟩
theorem Made.nil (w : World) (B : Nat) (t : TypeId) (A : Option Addr) (f : Nat → Value) : Made w B t A 0 f := fun h => absurd h (by omega)
theorem Made.less (h : Made w B t A n f) {B' : Nat} (hB : B' ≤ B) : Made w B' t A n f := fun hn => by
  obtain ⟨g, rfl, hg, hr⟩ := h hn
  exact ⟨g, rfl, by omega, hr⟩
theorem Made.of_own {v : Value} (h : w.ownsRow B t 1 v n ((List.range n).map f)) : ∃ A c, v = .slice A n c ∧ Made w B t A n f := by
  rcases h.2 with ⟨rfl, rfl⟩ | ⟨g, cap, cur, rfl, hg, hh, _, _, _, hx⟩
  · exact ⟨none, 0, rfl, Made.nil _ _ _ _ _⟩
  · refine ⟨_, _, rfl, fun _ => ⟨g, rfl, hg, cur, hh, fun i hi => ?_⟩⟩
    have h1 : (cur.toList.take (n * 1))[i]? = some (f i) := by rw [hx]; simp [hi]
    rw [List.getElem?_take, if_pos (by omega)] at h1
    simpa using h1
end

/-! ### Only: of w nothing has turned but the block of the slice A -/
structure Only (w w' : World) (A : Option Addr) : Prop where
  os : w'.os = w.os
  tape : w'.tape = w.tape
  output : w'.output = w.output
  size : w'.heap.size = w.heap.size
  block : ∀ i, (∀ ad : Addr, A = some ad → ad.block ≠ i) → w'.heap[i]? = w.heap[i]?
section
variable {w w' w'' : World} {A : Option Addr}
theorem Only.refl (w : World) (A : Option Addr) : Only w w A := ⟨rfl, rfl, rfl, rfl, fun _ _ => rfl⟩
theorem Only.set (h : Only w w' A) {p ad : Addr} (hA : A = some ad) (hp : p.block = ad.block) (u : Value) : Only w (w'.setCell p u) A :=
  ⟨h.os, h.tape, h.output, by simpa [World.setCell] using h.size, fun i hi => (Below.heap_setCell w' p u i (by have := hi ad hA; omega)).trans (h.block i hi)⟩
theorem Only.drewN (h : Only w w' A) (n : Nat) : Only w (w'.drewN n) A := ⟨h.os, h.tape, h.output, h.size, h.block⟩
theorem Only.drew (h : Only w w' A) : Only w w'.drew A := ⟨h.os, h.tape, h.output, h.size, h.block⟩
theorem Only.below (h : Only w w' A) {B : Nat} (hB : ∀ ad : Addr, A = some ad → B ≤ ad.block) : Below B w w' :=
  ⟨h.os, h.tape, h.output, by rw [h.size]; exact Nat.le_refl _, fun k hk => h.block k (fun ad e => by have := hB ad e; omega)⟩
theorem Row.only {g n : Nat} {t : TypeId} {f : Nat → Value} (h : Row w g t n f) (ho : Only w w' A) (hne : ∀ ad : Addr, A = some ad → ad.block ≠ g) : Row w' g t n f := h.of_block (ho.block g hne)
/-- What lies below B keeps while a slice from B on is written. -/
theorem Rd.only {B n : Nat} {A' : Option Addr} {f : Nat → Value} (h : Rd w B A' n f) (ho : Only w w' A) (hB : ∀ ad : Addr, A = some ad → B ≤ ad.block) : Rd w' B A' n f := h.below (ho.below hB)
end

/-- What a function answers that returns a list of its own and whether it could. -/
def Rets (t : TypeId) (w : World) (m : Nat) (G : Nat → Value) (v : Bool) (e : Ending) (w' : World) : Prop :=
  ∃ A c, e = .returned (.tuple #[.slice A m c, .bool v]) ∧ Below w.heap.size w w' ∧ Made w' w.heap.size t A m G
/-- .. that returns a list of its own alone. -/
def Ret1 (t : TypeId) (w : World) (m : Nat) (G : Nat → Value) (e : Ending) (w' : World) : Prop :=
  ∃ A c, e = .returned (.slice A m c) ∧ Below w.heap.size w w' ∧ Made w' w.heap.size t A m G
end Go.Proofs.Ytpanefjjghlhiaa
