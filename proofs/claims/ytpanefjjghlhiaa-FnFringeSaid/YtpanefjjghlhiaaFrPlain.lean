/-
  Plain words on fringes: valid lists, quarter phases, scores, the first best. No program.
-/
import Derived.Test.YtpanefjjghlhiaaPlain
namespace Go.Proofs.Ytpanefjjghlhiaa

/-- Three quarter phases. -/
def q3 (d r p : Int) : Bool := inB 0 3 d && (inB 0 3 r && inB 0 3 p)
theorem q3_true {d r p : Int} (h : q3 d r p = true) : (0 ≤ d ∧ d ≤ 3) ∧ (0 ≤ r ∧ r ≤ 3) ∧ 0 ≤ p ∧ p ≤ 3 := by
  simp only [q3, Bool.and_eq_true] at h
  exact ⟨inB_true h.1, inB_true h.2.1, inB_true h.2.2⟩
theorem q3_mk {d r p : Int} (h1 : 0 ≤ d ∧ d ≤ 3) (h2 : 0 ≤ r ∧ r ≤ 3) (h3 : 0 ≤ p ∧ p ≤ 3) : q3 d r p = true := by
  simp [q3, inB_mk h1.1 h1.2, inB_mk h2.1 h2.2, inB_mk h3.1 h3.2]
/-- All of a list are quarter phases. -/
def allQ (n : Nat) (f : Nat → Int) : Bool := allN n (fun i => inB 0 3 (f i))
/-- A row of fringes. -/
def rok (L : Nat → Nat) (f : Nat → Nat → Int) (r : Nat) : Bool := decide (L r = L 0) && allQ (L r) (f r)
/-- Lists are fringes. -/
def fvB (n : Nat) (L : Nat → Nat) (f : Nat → Nat → Int) : Bool := inB 1 8 n && (inB 1 8 (L 0) && allN n (rok L f))
theorem fvB_true {n : Nat} {L : Nat → Nat} {f : Nat → Nat → Int} (h : fvB n L f = true) : (1 ≤ n ∧ n ≤ 8) ∧ (1 ≤ L 0 ∧ L 0 ≤ 8) ∧ ∀ r, r < n → L r = L 0 ∧ ∀ i, i < L 0 → 0 ≤ f r i ∧ f r i ≤ 3 := by
  simp only [fvB, Bool.and_eq_true] at h
  obtain ⟨h1, h2, h3⟩ := h
  have h1 := inB_true h1
  have h2 := inB_true h2
  refine ⟨by omega, by omega, fun r hr => ?_⟩
  have h4 := allN_iff.1 h3 r hr
  simp only [rok, Bool.and_eq_true, decide_eq_true_eq] at h4
  exact ⟨h4.1, fun i hi => inB_true (allN_iff.1 h4.2 i (by omega))⟩
theorem fvB_mk {n : Nat} {L : Nat → Nat} {f : Nat → Nat → Int} (h1 : 1 ≤ n ∧ n ≤ 8) (h2 : 1 ≤ L 0 ∧ L 0 ≤ 8) (h3 : ∀ r, r < n → L r = L 0 ∧ ∀ i, i < L 0 → 0 ≤ f r i ∧ f r i ≤ 3) : fvB n L f = true := by
  simp only [fvB, Bool.and_eq_true]
  refine ⟨inB_mk (by omega) (by omega), inB_mk (by omega) (by omega), allN_mk fun r hr => ?_⟩
  simp only [rok, Bool.and_eq_true, decide_eq_true_eq]
  exact ⟨(h3 r hr).1, allN_mk fun i hi => inB_mk ((h3 r hr).2 i (by rw [← (h3 r hr).1]; exact hi)).1 ((h3 r hr).2 i (by rw [← (h3 r hr).1]; exact hi)).2⟩
theorem fvB_all {n : Nat} {L : Nat → Nat} {f : Nat → Nat → Int} (h1 : 1 ≤ n) (h1' : n ≤ 8) (h2 : 1 ≤ L 0) (h2' : L 0 ≤ 8) (h3 : AllTo (rok L f) n) : fvB n L f = true := by
  simp only [fvB, Bool.and_eq_true]
  exact ⟨inB_mk (by omega) (by omega), inB_mk (by omega) (by omega), allN_mk h3⟩
theorem fvB_not {n : Nat} {L : Nat → Nat} {f : Nat → Nat → Int} (h : fvB n L f = true → False) : fvB n L f = false := by
  rw [Bool.eq_false_iff]; exact h
theorem fvB_row {n : Nat} {L : Nat → Nat} {f : Nat → Nat → Int} {r : Nat} (hr : r < n) (h : rok L f r = false) : fvB n L f = false := by
  simp [fvB, allN_bad hr h]
theorem allQ_bad {n k : Nat} {f : Nat → Int} (hk : k < n) (h : inB 0 3 (f k) = false) : allQ n f = false := allN_bad hk h
theorem inB_lo {lo hi n : Int} (h : n < lo) : inB lo hi n = false := by simp [inB]; omega
theorem inB_hi {lo hi n : Int} (h : hi < n) : inB lo hi n = false := by simp [inB]; omega
theorem rok_len {L : Nat → Nat} {f : Nat → Nat → Int} {r : Nat} (h : L r ≠ L 0) : rok L f r = false := by simp [rok, h]
theorem rok_bad {L : Nat → Nat} {f : Nat → Nat → Int} {r : Nat} (h : allQ (L r) (f r) = false) : rok L f r = false := by simp [rok, h]
theorem rok_good {L : Nat → Nat} {f : Nat → Nat → Int} {r : Nat} (h1 : L r = L 0) (h : allQ (L r) (f r) = true) : rok L f r = true := by unfold rok; rw [h]; simpa using h1

/-- The quarter phase of a delay, a rate and a start. -/
def frF (d r p : Int) (c t : Nat) : Int := (d * c + r * t + p) % 4
/-- Fringes turned. -/
def tnF (f : Nat → Nat → Int) (d r p : Int) (c t : Nat) : Int := (f c t - d * c - r * t - p) % 4
theorem frF_bd (d r p : Int) (c t : Nat) : 0 ≤ frF d r p c t ∧ frF d r p c t ≤ 3 := by unfold frF; omega
theorem tnF_bd (f : Nat → Nat → Int) (d r p : Int) (c t : Nat) : 0 ≤ tnF f d r p c t ∧ tnF f d r p c t ≤ 3 := by unfold tnF; omega
/-- What can be fringes. -/
def frOk (d r p ch ti : Int) : Bool := q3 d r p && (inB 1 8 ch && inB 1 8 ti)
theorem frOk_true {d r p ch ti : Int} (h : frOk d r p ch ti = true) : q3 d r p = true ∧ (1 ≤ ch ∧ ch ≤ 8) ∧ 1 ≤ ti ∧ ti ≤ 8 := by
  simp only [frOk, Bool.and_eq_true] at h
  exact ⟨h.1, inB_true h.2.1, inB_true h.2.2⟩
/-- So many if it could be done, else none. -/
def many (ok : Bool) (n : Nat) : Nat := if ok = true then n else 0
theorem mul38 {d : Int} {k : Nat} (h1 : 0 ≤ d) (h2 : d ≤ 3) (hk : k < 8) : 0 ≤ d * (k : Int) ∧ d * (k : Int) ≤ 21 := by
  have a : d = 0 ∨ d = 1 ∨ d = 2 ∨ d = 3 := by omega
  rcases a with rfl | rfl | rfl | rfl <;> omega
/-- Valid fringes turned. -/
def tnOk (n : Nat) (L : Nat → Nat) (f : Nat → Nat → Int) (d r p : Int) : Bool := fvB n L f && q3 d r p
theorem tnOk_true {n : Nat} {L : Nat → Nat} {f : Nat → Nat → Int} {d r p : Int} (h : tnOk n L f d r p = true) : fvB n L f = true ∧ q3 d r p = true := by
  simpa [tnOk] using h
/-- The score. -/
def sc1 (f : Nat → Nat → Int) (d r p : Int) (c t : Nat) : Int := if f c t = frF d r p c t then 1 else 0
def scRow (l : Nat) (f : Nat → Nat → Int) (d r p : Int) (c : Nat) : Int := sumN (sc1 f d r p c) l
def score (n l : Nat) (f : Nat → Nat → Int) (d r p : Int) : Int := sumN (scRow l f d r p) n
theorem sc1_bd (f : Nat → Nat → Int) (d r p : Int) (c t : Nat) : 0 ≤ sc1 f d r p c t ∧ sc1 f d r p c t ≤ 1 := by unfold sc1; split <;> omega
theorem scRow_bd (l : Nat) (f : Nat → Nat → Int) (d r p : Int) (c : Nat) : 0 ≤ scRow l f d r p c ∧ scRow l f d r p c ≤ l := by
  have := sumN_bd (f := sc1 f d r p c) (M := 1) (n := l) (fun k _ => sc1_bd f d r p c k) l (Nat.le_refl _)
  unfold scRow; omega
theorem score_bd (n l : Nat) (f : Nat → Nat → Int) (d r p : Int) : 0 ≤ score n l f d r p ∧ score n l f d r p ≤ n * l := by
  have := sumN_bd (f := scRow l f d r p) (M := l) (n := n) (fun k _ => scRow_bd l f d r p k) n (Nat.le_refl _)
  unfold score; omega
/-- The first k with the greatest number. -/
def bestN (s : Nat → Int) : Nat → Nat
  | 0 => 0
  | k + 1 => if s (bestN s k) < s k then k else bestN s k
theorem bestN_lt (s : Nat → Int) : ∀ k, 0 < k → bestN s k < k := by
  intro k
  induction k with
  | zero => intro h; omega
  | succ k ih =>
    intro _
    simp only [bestN]
    split
    · omega
    · rcases Nat.eq_zero_or_pos k with e | e
      · subst e; simp [bestN]
      · have := ih e; omega
theorem bestN_ge (s : Nat → Int) : ∀ k j, j < k → s j ≤ s (bestN s k) := by
  intro k
  induction k with
  | zero => intro j h; omega
  | succ k ih =>
    intro j hj
    simp only [bestN]
    split
    · by_cases e : j = k
      · subst e; omega
      · have := ih j (by omega); omega
    · by_cases e : j = k
      · subst e; omega
      · exact ih j (by omega)
theorem bestN_first (s : Nat → Int) : ∀ k j, j < bestN s k → s j < s (bestN s k) := by
  intro k
  induction k with
  | zero => intro j h; simp [bestN] at h
  | succ k ih =>
    intro j hj
    simp only [bestN] at hj ⊢
    split at hj
    · rename_i h
      rw [if_pos h]
      have := bestN_ge s k j hj
      omega
    · rename_i h
      rw [if_neg h]
      exact ih j hj
/-- The scores by number. -/
def scN (n l : Nat) (f : Nat → Nat → Int) (k : Nat) : Int := score n l f ((k / 16 : Nat) : Int) ((k / 4 % 4 : Nat) : Int) ((k % 4 : Nat) : Int)
def fitN (n l : Nat) (f : Nat → Nat → Int) : Nat := bestN (scN n l f) 64
end Go.Proofs.Ytpanefjjghlhiaa
