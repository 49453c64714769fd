/-
  Plain words on natural weights: how many pairs have a cell. No program.
-/
import Derived.Test.YtpabcpiiolfakaaTrPlain
namespace Go.Proofs.Ytpabcpiiolfakaa

/-- 1 where a pair's vector has the cell. -/
def oneK (X Y : Nat → Int) (i j c : Nat) : Int := if cellK 1 X Y i j = c then 1 else 0
theorem oneK_bd (X Y : Nat → Int) (i j c : Nat) : 0 ≤ oneK X Y i j c ∧ oneK X Y i j c ≤ 1 := by unfold oneK; split <;> omega
/-- How often a list of pairs has a cell, both orders counted. -/
def natL (X Y : Nat → Int) (l : List (Nat × Nat)) (c : Nat) : Int := (l.map fun p => oneK X Y p.1 p.2 c + oneK X Y p.2 p.1 c).sum
theorem natL_nil (X Y : Nat → Int) (c : Nat) : natL X Y [] c = 0 := rfl
theorem natL_snoc (X Y : Nat → Int) (l : List (Nat × Nat)) (i j c : Nat) : natL X Y (l ++ [(i, j)]) c = natL X Y l c + oneK X Y i j c + oneK X Y j i c := by
  simp only [natL, List.map_append, List.sum_append, List.map_cons, List.map_nil, List.sum_cons, List.sum_nil]
  omega
theorem natL_bd (X Y : Nat → Int) (c : Nat) : ∀ l : List (Nat × Nat), 0 ≤ natL X Y l c ∧ natL X Y l c ≤ 2 * l.length := by
  intro l
  induction l with
  | nil => simp [natL]
  | cons p l ih =>
    have h1 := oneK_bd X Y p.1 p.2 c
    have h2 := oneK_bd X Y p.2 p.1 c
    unfold natL at *
    simp only [List.map_cons, List.sum_cons, List.length_cons]
    omega
/-- Natural weights. -/
def natB (X Y : Nat → Int) (n c : Nat) : Int := sumN (fun a => sumN (fun b => if a = b then 0 else oneK X Y a b c) n) n
/-- What the reference has counted: all of the rows below i, and of row i those below j. -/
def snB (X Y : Nat → Int) (n i j c : Nat) : Int := sumN (fun a => sumN (fun b => if a = b then 0 else oneK X Y a b c) n) i + sumN (fun b => if i = b then 0 else oneK X Y i b c) j
theorem snB_zero (X Y : Nat → Int) (n c : Nat) : snB X Y n 0 0 c = 0 := rfl
theorem snB_next (X Y : Nat → Int) (n i c : Nat) : snB X Y n i n c = snB X Y n (i + 1) 0 c := by simp only [snB, sumN]; omega
theorem snB_same (X Y : Nat → Int) (n i c : Nat) : snB X Y n i (i + 1) c = snB X Y n i i c := by simp [snB, sumN]
theorem snB_step (X Y : Nat → Int) (n i j c : Nat) (h : i ≠ j) : snB X Y n i (j + 1) c = snB X Y n i j c + oneK X Y i j c := by
  simp only [snB, sumN, if_neg h]; omega
theorem snB_end (X Y : Nat → Int) (n c : Nat) : snB X Y n n 0 c = natB X Y n c := by simp only [snB, natB, sumN]; omega
theorem snB_bd (X Y : Nat → Int) {n i j : Nat} (hn : n ≤ 7) (hi : i ≤ n) (hj : j ≤ n) (c : Nat) : 0 ≤ snB X Y n i j c ∧ snB X Y n i j c ≤ 56 := by
  have r : ∀ a m, m ≤ n → 0 ≤ sumN (fun b => if a = b then 0 else oneK X Y a b c) m ∧ sumN (fun b => if a = b then 0 else oneK X Y a b c) m ≤ m * 1 := fun a m hm =>
    sumN_bd (n := n) (fun b _ => by have := oneK_bd X Y a b c; split <;> omega) m hm
  have s := sumN_bd (f := fun a => sumN (fun b => if a = b then 0 else oneK X Y a b c) n) (M := n) (n := n) (fun a _ => by have := r a n (Nat.le_refl _); omega) i hi
  have t := r i j hj
  have u : (i : Int) * n ≤ 7 * 7 := Int.mul_le_mul (by omega) (by omega) (by omega) (by omega)
  unfold snB
  omega
theorem natL_prs (X Y : Nat → Int) {n : Nat} (hn : n ≤ 7) (c : Nat) : natL X Y (prs n) c = natB X Y n c := by
  have key : ∀ g : Nat → Nat → Int, ∀ m : Nat, m ≤ 7 → ((prs m).map fun p => g p.1 p.2 + g p.2 p.1).sum = sumN (fun a => sumN (fun b => if a = b then 0 else g a b) m) m := by
    intro g m hm
    have h : m = 0 ∨ m = 1 ∨ m = 2 ∨ m = 3 ∨ m = 4 ∨ m = 5 ∨ m = 6 ∨ m = 7 := by omega
    rcases h with rfl | rfl | rfl | rfl | rfl | rfl | rfl | rfl
    all_goals
      simp [prs, prsTo, rowP, sumN, List.range_succ]
      try omega
  exact key (fun i j => oneK X Y i j c) n hn
end Go.Proofs.Ytpabcpiiolfakaa
