/-
  Plain sums: the beam of weights, its transform, its sum. No program.
-/
import Derived.Test.YtbnfnloaomjjbaaPlain
namespace Go.Proofs.Ytbnfnloaomjjbaa

/-- The real and the imaginary part of i to the power of k. -/
def uRe (k : Nat) : Int := if k % 4 = 0 then 1 else if k % 4 = 2 then -1 else 0
def uIm (k : Nat) : Int := if k % 4 = 1 then 1 else if k % 4 = 3 then -1 else 0
theorem uRe_bd (k : Nat) : -1 ≤ uRe k ∧ uRe k ≤ 1 := by unfold uRe; split <;> (try split) <;> omega
theorem uIm_bd (k : Nat) : -1 ≤ uIm k ∧ uIm k ≤ 1 := by unfold uIm; split <;> (try split) <;> omega
/-- The power that a cell of the sky has at a cell of the transform. -/
def phi (k l : Nat) : Nat := k % 4 * (l % 4) + k / 4 * (l / 4)
theorem phi_le {k l : Nat} (hk : k < 16) (hl : l < 16) : phi k l ≤ 18 := by
  unfold phi
  have h1 : k % 4 * (l % 4) ≤ 3 * 3 := Nat.mul_le_mul (by omega) (by omega)
  have h2 : k / 4 * (l / 4) ≤ 3 * 3 := Nat.mul_le_mul (by omega) (by omega)
  omega
def tRe (f : Nat → Int) (k l : Nat) : Int := f l * uRe (phi k l)
def tIm (f : Nat → Int) (k l : Nat) : Int := f l * uIm (phi k l)
/-- The beam (the real part of the transform of integers); the imaginary part. -/
def beam (f : Nat → Int) (k : Nat) : Int := sumN (tRe f k) 16
def beamI (f : Nat → Int) (k : Nat) : Int := sumN (tIm f k) 16

theorem sumN_congr {f g : Nat → Int} {n : Nat} (h : ∀ k, k < n → f k = g k) : sumN f n = sumN g n := by
  induction n with
  | zero => rfl
  | succ n ih => simp only [sumN]; rw [ih (fun k hk => h k (by omega)), h n (by omega)]
theorem sumN_add (f g : Nat → Int) (n : Nat) : sumN (fun k => f k + g k) n = sumN f n + sumN g n := by
  induction n with
  | zero => rfl
  | succ n ih => simp only [sumN]; rw [ih]; omega
theorem sumN_mul (f : Nat → Int) (c : Int) (n : Nat) : sumN (fun k => f k * c) n = sumN f n * c := by
  induction n with
  | zero => simp [sumN]
  | succ n ih => simp only [sumN]; rw [ih, Int.add_mul]
theorem sumN_mul' (f : Nat → Int) (c : Int) (n : Nat) : sumN (fun k => c * f k) n = c * sumN f n := by
  induction n with
  | zero => simp [sumN]
  | succ n ih => simp only [sumN]; rw [ih, Int.mul_add]
theorem sumN_zero (n : Nat) : sumN (fun _ => 0) n = 0 := by
  induction n with
  | zero => rfl
  | succ n ih => simp only [sumN]; rw [ih]; rfl
theorem sumN_swap (F : Nat → Nat → Int) (n m : Nat) : sumN (fun i => sumN (fun j => F i j) m) n = sumN (fun j => sumN (fun i => F i j) n) m := by
  induction n with
  | zero => simp only [sumN]; exact (sumN_zero m).symm
  | succ n ih => simp only [sumN]; rw [ih, ← sumN_add]
theorem sumN_abs {f : Nat → Int} {M : Int} {n : Nat} (h : ∀ k, k < n → -M ≤ f k ∧ f k ≤ M) : ∀ k, k ≤ n → -(k * M) ≤ sumN f k ∧ sumN f k ≤ k * M := by
  intro k
  induction k with
  | zero => intro _; simp [sumN]
  | succ k ih =>
    intro hk
    have h1 := ih (by omega)
    have h2 := h k (by omega)
    simp only [sumN]
    rw [Int.natCast_add, Int.add_mul]
    omega
theorem sumN_le {f g : Nat → Int} {n : Nat} (h : ∀ k, k < n → f k ≤ g k) : sumN f n ≤ sumN g n := by
  induction n with
  | zero => exact Int.le_refl _
  | succ n ih =>
    simp only [sumN]
    have := ih (fun k hk => h k (by omega))
    have := h n (by omega)
    omega
/-- One number of a sum. -/
theorem sumN_single (f : Nat → Int) (j : Nat) : ∀ n, sumN (fun k => f k * (if k = j then 1 else 0)) n = if j < n then f j else 0 := by
  intro n
  induction n with
  | zero => simp [sumN]
  | succ n ih =>
    simp only [sumN]
    rw [ih]
    by_cases e : n = j
    · subst e; simp
    · rw [if_neg e, Int.mul_zero, Int.add_zero]
      by_cases h : j < n
      · rw [if_pos h, if_pos (by omega)]
      · rw [if_neg h, if_neg (by omega)]

theorem tRe_bd {f : Nat → Int} {M : Int} {k l : Nat} (h : 0 ≤ f l ∧ f l ≤ M) : -M ≤ tRe f k l ∧ tRe f k l ≤ M := by
  unfold tRe uRe
  split
  · omega
  · split <;> omega
theorem tRe_abs {f : Nat → Int} {k l : Nat} (h : 0 ≤ f l) : -(f l) ≤ tRe f k l ∧ tRe f k l ≤ f l := by
  unfold tRe uRe
  split
  · omega
  · split <;> omega

/-- The kernel's table: the sums of products of units. -/
theorem tab_re : ∀ k l : Fin 16, sumN (fun a => uRe (phi a l.val) * uRe (phi k.val a)) 16 = (if l.val = k.val then 8 else 0) + (if l.val = oppN k.val then 8 else 0) := by decide +kernel
theorem tab_im : ∀ k l : Fin 16, sumN (fun a => uRe (phi a l.val) * uIm (phi k.val a)) 16 = 0 := by decide +kernel
theorem tab_sum : ∀ l : Fin 16, sumN (fun a => uRe (phi a l.val)) 16 = if l.val = 0 then 16 else 0 := by decide +kernel
theorem phi_zero (l : Nat) : phi 0 l = 0 := by simp [phi]

/-- The transform of the beam. -/
theorem beam_beam (f : Nat → Int) {k : Nat} (hk : k < 16) : beam (beam f) k = 8 * f k + 8 * f (oppN k) := by
  have h1 : beam (beam f) k = sumN (fun a => sumN (fun l => f l * (uRe (phi a l) * uRe (phi k a))) 16) 16 := by
    refine sumN_congr fun a _ => ?_
    show beam f a * uRe (phi k a) = _
    unfold beam
    rw [← sumN_mul]
    refine sumN_congr fun l _ => ?_
    unfold tRe
    rw [Int.mul_assoc]
  rw [h1, sumN_swap]
  have h2 : sumN (fun l => sumN (fun a => f l * (uRe (phi a l) * uRe (phi k a))) 16) 16 = sumN (fun l => (8 * f l) * (if l = k then 1 else 0) + (8 * f l) * (if l = oppN k then 1 else 0)) 16 := by
    refine sumN_congr fun l hl => ?_
    rw [sumN_mul', tab_re ⟨k, hk⟩ ⟨l, hl⟩]
    show f l * ((if l = k then 8 else 0) + (if l = oppN k then 8 else 0)) = _
    split <;> split <;> omega
  rw [h2, sumN_add, sumN_single (fun l => 8 * f l), sumN_single (fun l => 8 * f l), if_pos hk, if_pos (oppN_lt k)]
theorem beam_beamI (f : Nat → Int) {k : Nat} (hk : k < 16) : beamI (beam f) k = 0 := by
  have h1 : beamI (beam f) k = sumN (fun a => sumN (fun l => f l * (uRe (phi a l) * uIm (phi k a))) 16) 16 := by
    refine sumN_congr fun a _ => ?_
    show beam f a * uIm (phi k a) = _
    unfold beam
    rw [← sumN_mul]
    refine sumN_congr fun l _ => ?_
    unfold tRe
    rw [Int.mul_assoc]
  rw [h1, sumN_swap]
  rw [show (0 : Int) = sumN (fun _ => 0) 16 from (sumN_zero 16).symm]
  refine sumN_congr fun l hl => ?_
  rw [sumN_mul', tab_im ⟨k, hk⟩ ⟨l, hl⟩, Int.mul_zero]
theorem beam_sum (f : Nat → Int) : sumN (beam f) 16 = 16 * f 0 := by
  unfold beam tRe
  rw [sumN_swap]
  have h2 : sumN (fun l => sumN (fun a => f l * uRe (phi a l)) 16) 16 = sumN (fun l => (16 * f l) * (if l = 0 then 1 else 0)) 16 := by
    refine sumN_congr fun l hl => ?_
    rw [sumN_mul', tab_sum ⟨l, hl⟩]
    show f l * (if l = 0 then 16 else 0) = _
    split <;> omega
  rw [h2, sumN_single (fun l => 16 * f l), if_pos (by omega)]
theorem beam_zero (f : Nat → Int) : beam f 0 = sumN f 16 := by
  unfold beam tRe
  refine sumN_congr fun l _ => ?_
  rw [phi_zero]; simp [uRe]
theorem beam_abs {f : Nat → Int} (h : ∀ k, k < 16 → 0 ≤ f k) (k : Nat) : -(sumN f 16) ≤ beam f k ∧ beam f k ≤ sumN f 16 := by
  have h1 : beam f k ≤ sumN f 16 := sumN_le fun l hl => (tRe_abs (h l hl)).2
  have h2 : sumN (fun l => f l * (-1)) 16 ≤ beam f k := sumN_le fun l hl => by have := (tRe_abs (k := k) (h l hl)).1; omega
  rw [sumN_mul] at h2
  omega
/-- The beam hears the list's sixteen numbers alone. -/
theorem beam_congr {f g : Nat → Int} (h : ∀ l, l < 16 → f l = g l) (k : Nat) : beam f k = beam g k := sumN_congr fun l hl => by unfold tRe; rw [h l hl]
theorem beam_add (f g : Nat → Int) (k : Nat) : beam (fun l => f l + g l) k = beam f k + beam g k := by
  unfold beam
  rw [← sumN_add]
  refine sumN_congr fun l _ => ?_
  unfold tRe
  rw [Int.add_mul]
end Go.Proofs.Ytbnfnloaomjjbaa
