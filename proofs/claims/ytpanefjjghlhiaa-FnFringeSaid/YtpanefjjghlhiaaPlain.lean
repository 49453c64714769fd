/-
  Plain functions on integers and cells that the contracts of this seat name: remainders, the index of a cell, the opposite cell, valid weights, valid coverages. No program.
-/
namespace Go.Proofs.Ytpanefjjghlhiaa

/-- Whether a number lies in a range. Not reducible: a test over it stays whole. -/
def inB (lo hi n : Int) : Bool := decide (lo ≤ n) && decide (n ≤ hi)
theorem inB_true {lo hi n : Int} (h : inB lo hi n = true) : lo ≤ n ∧ n ≤ hi := by simpa [inB] using h
theorem inB_false {lo hi n : Int} (h : inB lo hi n = false) : n < lo ∨ hi < n := by
  by_cases h1 : lo ≤ n
  · by_cases h2 : n ≤ hi
    · simp [inB, h1, h2] at h
    · exact .inr (by omega)
  · exact .inl (by omega)
theorem inB_mk {lo hi n : Int} (h1 : lo ≤ n) (h2 : n ≤ hi) : inB lo hi n = true := by simp [inB, h1, h2]

theorem tmod4 (n : Int) : (0 ≤ n ∧ n.tmod 4 = n % 4) ∨ (n < 0 ∧ n.tmod 4 = -((-n) % 4)) := by
  by_cases h : 0 ≤ n
  · exact .inl ⟨h, Int.tmod_eq_emod_of_nonneg h⟩
  · refine .inr ⟨by omega, ?_⟩
    have e : n.tmod 4 = -((-n).tmod 4) := by rw [Int.neg_tmod, Int.neg_neg]
    rw [e, Int.tmod_eq_emod_of_nonneg (by omega)]

/-- The index of the cell with coordinates x, y modulo 4. -/
def cellN (x y : Int) : Nat := (4 * (y % 4) + x % 4).toNat
theorem cellN_lt (x y : Int) : cellN x y < 16 := by unfold cellN; omega
theorem cellN_eq (x y : Int) : ((cellN x y : Nat) : Int) = 4 * (y % 4) + x % 4 := by unfold cellN; omega
/-- The opposite cell. -/
def oppN (k : Nat) : Nat := cellN (-((k : Int) % 4)) (-((k : Int) / 4))
theorem oppN_lt (k : Nat) : oppN k < 16 := cellN_lt _ _

/-- 'All below n', as a Bool. -/
def allN (n : Nat) (p : Nat → Bool) : Bool := (List.range n).all p
theorem allN_iff {n : Nat} {p : Nat → Bool} : allN n p = true ↔ ∀ k, k < n → p k = true := by simp [allN, List.all_eq_true]
theorem allN_mk {n : Nat} {p : Nat → Bool} (h : ∀ k, k < n → p k = true) : allN n p = true := allN_iff.2 h
theorem allN_bad {n k : Nat} {p : Nat → Bool} (hk : k < n) (h : p k = false) : allN n p = false := by
  rw [Bool.eq_false_iff]
  intro e
  rw [allN_iff.1 e k hk] at h
  cases h
theorem allN_congr {n : Nat} {p q : Nat → Bool} (h : ∀ k, k < n → p k = q k) : allN n p = allN n q := by
  rw [Bool.eq_iff_iff, allN_iff, allN_iff]
  exact ⟨fun a k hk => by rw [← h k hk]; exact a k hk, fun a k hk => by rw [h k hk]; exact a k hk⟩

/-- Two lists are equal. -/
def eqN (n m : Nat) (f g : Nat → Int) : Bool := decide (n = m) && allN n (fun k => decide (f k = g k))
theorem eqN_len {n m : Nat} {f g : Nat → Int} (h : n ≠ m) : eqN n m f g = false := by simp [eqN, h]
theorem eqN_bad {n k : Nat} {f g : Nat → Int} (hk : k < n) (h : f k ≠ g k) : eqN n n f g = false := by
  have e := allN_bad (p := fun k => decide (f k = g k)) hk (by simpa using h)
  simp [eqN, e]
theorem eqN_good {n : Nat} {f g : Nat → Int} (h : ∀ k, k < n → f k = g k) : eqN n n f g = true := by
  have e := allN_mk (n := n) (p := fun k => decide (f k = g k)) (fun k hk => by simpa using h k hk)
  simp [eqN, e]
def eqNB (n m : Nat) (f g : Nat → Bool) : Bool := decide (n = m) && allN n (fun k => decide (f k = g k))
theorem eqNB_len {n m : Nat} {f g : Nat → Bool} (h : n ≠ m) : eqNB n m f g = false := by simp [eqNB, h]
theorem eqNB_bad {n k : Nat} {f g : Nat → Bool} (hk : k < n) (h : f k ≠ g k) : eqNB n n f g = false := by
  have e := allN_bad (p := fun k => decide (f k = g k)) hk (by simpa using h)
  simp [eqNB, e]
theorem eqNB_good {n : Nat} {f g : Nat → Bool} (h : ∀ k, k < n → f k = g k) : eqNB n n f g = true := by
  have e := allN_mk (n := n) (p := fun k => decide (f k = g k)) (fun k hk => by simpa using h k hk)
  simp [eqNB, e]

/-- Valid weights. -/
def wok (f : Nat → Int) (k : Nat) : Bool := inB 0 100 (f k) && decide (f k = f (oppN k))
def wvB (n : Nat) (f : Nat → Int) : Bool := decide (n = 16) && allN 16 (wok f)
theorem wvB_len {n : Nat} {f : Nat → Int} (h : n ≠ 16) : wvB n f = false := by simp [wvB, h]
theorem wvB_bad {f : Nat → Int} {k : Nat} (hk : k < 16) (h : wok f k = false) : wvB 16 f = false := by simp [wvB, allN_bad hk h]
theorem wvB_good {f : Nat → Int} (h : ∀ k, k < 16 → wok f k = true) : wvB 16 f = true := by simp [wvB, allN_mk h]
theorem wvB_true {n : Nat} {f : Nat → Int} (h : wvB n f = true) : n = 16 ∧ ∀ k, k < 16 → wok f k = true := by
  simp only [wvB, Bool.and_eq_true, decide_eq_true_eq] at h
  exact ⟨h.1, allN_iff.1 h.2⟩

theorem wok_no {f : Nat → Int} {k : Nat} (h : inB 0 100 (f k) = false) : wok f k = false := by simp [wok, h]
theorem wok_ne {f : Nat → Int} {k : Nat} (h : f k ≠ f (oppN k)) : wok f k = false := by simp [wok, h]
theorem wok_yes {f : Nat → Int} {k : Nat} (h : inB 0 100 (f k) = true) (e : f k = f (oppN k)) : wok f k = true := by
  unfold wok; rw [h, ← e]; simp
theorem wok_bd {f : Nat → Int} {k : Nat} (h : wok f k = true) : 0 ≤ f k ∧ f k ≤ 100 ∧ f k = f (oppN k) := by
  simp only [wok, Bool.and_eq_true, decide_eq_true_eq] at h
  exact ⟨(inB_true h.1).1, (inB_true h.1).2, h.2⟩

/-- The sum of the first k numbers. -/
def sumN (f : Nat → Int) : Nat → Int
  | 0 => 0
  | k + 1 => sumN f k + f k
theorem sumN_bd {f : Nat → Int} {M : Int} {n : Nat} (h : ∀ k, k < n → 0 ≤ f k ∧ f k ≤ M) : ∀ k, k ≤ n → 0 ≤ sumN f k ∧ sumN f k ≤ k * M := by
  intro k
  induction k with
  | zero => intro _; simp [sumN]
  | succ k ih =>
    intro hk
    have h1 := ih (by omega)
    have h2 := h k (by omega)
    simp only [sumN]
    rw [Int.natCast_add, Int.add_mul]
    omega
/-- The sum of weights, -1 of what are none. -/
def wsum (n : Nat) (f : Nat → Int) : Int := if wvB n f = true then sumN f 16 else -1
/-- 'All below k'. -/
def AllTo (p : Nat → Bool) (k : Nat) : Prop := ∀ j, j < k → p j = true
theorem AllTo.zero (p : Nat → Bool) : AllTo p 0 := fun _ h => absurd h (Nat.not_lt_zero _)
theorem AllTo.succ {p : Nat → Bool} {k : Nat} (h : AllTo p k) (hk : p k = true) : AllTo p (k + 1) := fun j hj => by
  by_cases e : j = k
  · subst e; exact hk
  · exact h j (by omega)
end Go.Proofs.Ytpanefjjghlhiaa
