/-
  Words for the laws over drawn arrays.
-/
import Derived.Test.YtpabcpiiolfakaaHelpA
import Derived.Test.YtpabcpiiolfakaaDrawB
namespace Go.Proofs.Ytpabcpiiolfakaa
open Go.RowKit Go.Deep

theorem Rd.dr {w : World} {A : Option Addr} {n : Nat} {f : Nat → Value} (h : Rd w w.heap.size A n f) (m : Nat) : Rd (w.drewN m) (w.drewN m).heap.size A n f := h
theorem RdA.dr {w : World} {A : Option Addr} {n : Nat} {X Y : Nat → Int} (h : RdA w w.heap.size A n X Y) (m : Nat) : RdA (w.drewN m) (w.drewN m).heap.size A n X Y := h
theorem c_flags_yes (A A' : Option Addr) (n c c' : Nat) (f f' : Nat → Bool) (w : World) (hn : n ≤ 1048576) (h : Rd w w.heap.size A n (fun k => .bool (f k))) (h' : Rd w w.heap.size A' n (fun k => .bool (f' k))) (e : ∀ k, k < n → f k = f' k) :
    Calls Try.prog 24 #[.slice A n c, .slice A' n c'] w fun e w' => e = .returned (.bool true) ∧ ∃ m, w' = w.drewN m := by
  have C := c_sameFlags A A' n n c c' f f' w hn hn h h'
  rwa [eqNB_good e] at C
theorem cv_tr (k : Int) (X Y : Nat → Int) (n : Nat) : cvB 16 (trB k X Y n) = true := cvB_good fun c hc => by simp [cok, trB_opp k X Y n hc]
theorem c_valid_tr (A : Option Addr) (c : Nat) (k : Int) (X Y : Nat → Int) (n : Nat) (w : World) (h : Rd w w.heap.size A 16 (fun c => .bool (trB k X Y n c))) :
    Calls Try.prog 30 #[.slice A 16 c] w fun e w' => e = .returned (.bool true) ∧ ∃ m, w' = w.drewN m := by
  have C := c_CoverValid A 16 c (trB k X Y n) w (by omega) h
  rwa [cv_tr] at C
theorem tsOk_mk {X Y : Nat → Int} {n : Nat} {k : Int} (h : avB X Y n = true) (h1 : 1 ≤ k) (h2 : k ≤ 100) : tsOk X Y n k = true := by simp [tsOk, h, inB_mk h1 h2]
theorem tsOk_over {X Y : Nat → Int} {n : Nat} {k : Int} (h2 : 100 < k) : tsOk X Y n k = false := by simp [tsOk, inB]; omega
theorem av_less {X Y : Nat → Int} {n m : Nat} (h : avB X Y n = true) (h2 : 2 ≤ m) (hm : m ≤ n) : avB X Y m = true := by
  obtain ⟨⟨_, h7⟩, h3, h4⟩ := avB_true h
  exact avB_mk h2 (by omega) (fun i hi => h3 i (by omega)) (fun i j hi hj => h4 i j (by omega) (by omega))
theorem next_ne {m I J : Nat} (h2 : 2 ≤ m) (hI : I < m) (e : (I + 1) % m = J) : I ≠ J := by
  by_cases h : I + 1 < m
  · rw [Nat.mod_eq_of_lt h] at e; omega
  · have h7 : I + 1 = m := by omega
    rw [h7, Nat.mod_self] at e; omega
theorem base_bd {m : Nat} (h2 : 2 ≤ m) (h7 : m ≤ 7) : m * (m - 1) / 2 ≤ 21 := by
  have h : m = 2 ∨ m = 3 ∨ m = 4 ∨ m = 5 ∨ m = 6 ∨ m = 7 := by omega
  rcases h with rfl | rfl | rfl | rfl | rfl | rfl <;> decide
theorem less_join (k : Int) (X Y : Nat → Int) (m c : Nat) : (trB k X Y m c || trB k X Y (m - 1) c) = trB k X Y m c := by
  cases h : trB k X Y (m - 1) c with
  | false => simp
  | true => rw [trB_less k X Y (by omega : m - 1 ≤ m) c h]; rfl
theorem c_lcell (x y : Int) (r : Nat) (h : cellN x y = r) (w : World) : Calls Try.prog 46 #[.int .i64 x, .int .i64 y] w fun e w' => e = .returned (.int .i64 (r : Nat)) ∧ w = w' := by
  subst h; exact c_lcellAt x y w
/-- A factor of Side covers the first cell alone. -/
theorem trB_four {X Y : Nat → Int} {n : Nat} (h2 : 2 ≤ n) (c : Nat) : trB 4 X Y n c = decide (c = 0) := by
  have e : ∀ i j, cellK 4 X Y i j = 0 := fun i j => by unfold cellK cellN; omega
  refine bool_ext ?_
  rw [trB_iff, decide_eq_true_eq]
  constructor
  · rintro ⟨i, j, _, _, _, h⟩; rw [e] at h; exact h.symm
  · intro h; exact ⟨0, 1, by omega, by omega, by omega, by rw [e]; exact h.symm⟩
theorem cmany_congr {f g : Nat → Bool} (h : ∀ k, k < 16 → f k = g k) : cmany f = cmany g := by
  have e : ∀ k, k ≤ 16 → sumN (uni f) k = sumN (uni g) k := by
    intro k
    induction k with
    | zero => intro _; rfl
    | succ k ih => intro hk; simp only [sumN]; rw [ih (by omega)]; unfold uni; rw [h k (by omega)]
  exact e 16 (by omega)
theorem cmany_four {X Y : Nat → Int} {n : Nat} (h2 : 2 ≤ n) : cmany (trB 4 X Y n) = 1 := by
  rw [cmany_congr (g := fun c => decide (c = 0)) (fun c _ => trB_four h2 c)]
  decide
theorem cmanyB_tr (k : Int) (X Y : Nat → Int) (n : Nat) : cmanyB 16 (trB k X Y n) = cmany (trB k X Y n) := by rw [cmanyB, if_pos (cv_tr k X Y n)]

/-! ### How many cells a list of pairs covers -/
theorem uni_bd' (f : Nat → Bool) (k : Nat) : 0 ≤ uni f k ∧ uni f k ≤ 1 := by unfold uni; split <;> omega
theorem sumN_set (f g : Nat → Bool) (a : Nat) (h : ∀ k, k ≠ a → f k = g k) (n : Nat) : sumN (uni f) n ≤ sumN (uni g) n + (if a < n then 1 else 0) := by
  induction n with
  | zero => simp [sumN]
  | succ n ih =>
    simp only [sumN]
    by_cases e : n = a
    · subst e
      rw [if_neg (by omega)] at ih
      rw [if_pos (by omega)]
      have := uni_bd' f n
      have := uni_bd' g n
      omega
    · have e2 : uni f n = uni g n := by unfold uni; rw [h n e]
      by_cases h1 : a < n
      · rw [if_pos h1] at ih; rw [if_pos (by omega)]; omega
      · rw [if_neg h1] at ih; rw [if_neg (by omega)]; omega
theorem cmany_set (f g : Nat → Bool) (a : Nat) (h : ∀ k, k ≠ a → f k = g k) : cmany f ≤ cmany g + 1 := by
  have := sumN_set f g a h 16
  unfold cmany
  split at this <;> omega
theorem cmany_cov (k : Int) (X Y : Nat → Int) : ∀ l : List (Nat × Nat), cmany (covL k X Y l) ≤ 2 * l.length := by
  have key : ∀ l : List (Nat × Nat), cmany (covL k X Y l.reverse) ≤ 2 * l.length := by
    intro l
    induction l with
    | nil =>
      rw [cmany_congr (f := covL k X Y [].reverse) (g := fun _ => false) (fun _ _ => rfl)]
      decide
    | cons p l ih =>
      obtain ⟨i, j⟩ := p
      rw [List.reverse_cons]
      have h1 := cmany_set (covL k X Y (l.reverse ++ [(i, j)])) (fun c => if c = cellK k X Y i j then true else covL k X Y l.reverse c) (cellK k X Y j i) (fun c hc => by rw [covL_snoc, if_neg hc])
      have h2 := cmany_set (fun c => if c = cellK k X Y i j then true else covL k X Y l.reverse c) (covL k X Y l.reverse) (cellK k X Y i j) (fun c hc => if_neg hc)
      simp only [List.length_cons]
      omega
  intro l
  have := key l.reverse
  rwa [List.reverse_reverse, List.length_reverse] at this
theorem cmany_tr (k : Int) (X Y : Nat → Int) {n : Nat} (h7 : n ≤ 7) : cmany (trB k X Y n) ≤ 2 * (n * (n - 1) / 2 : Nat) := by
  have h := cmany_cov k X Y (prs n)
  have e : cmany (covL k X Y (prs n)) = cmany (trB k X Y n) := cmany_congr fun c _ => covL_prs k X Y n c
  have l := prs_len ⟨n, by omega⟩
  simp only at l
  rw [e, l] at h
  omega
theorem cmany_bd (f : Nat → Bool) : 0 ≤ cmany f ∧ cmany f ≤ 16 := by
  have := sumN_bd (f := uni f) (M := 1) (n := 16) (fun k _ => uni_bd' f k) 16 (by omega)
  unfold cmany; omega
theorem c_many_tr (A : Option Addr) (c : Nat) (k : Int) (X Y : Nat → Int) (n : Nat) (w : World) (h : Rd w w.heap.size A 16 (fun c => .bool (trB k X Y n c))) :
    Calls Try.prog 31 #[.slice A 16 c] w fun e w' => e = .returned (.int .i64 (cmany (trB k X Y n))) ∧ ∃ m, w' = w.drewN m := by
  have C := c_CoverMany A 16 c (trB k X Y n) w (by omega) h
  rwa [cmanyB_tr] at C
end Go.Proofs.Ytpabcpiiolfakaa
