/-
  Plain words on channels, tracks, and the number of channels that cover all. No program.
-/
import Derived.Test.YtpabcpiiolfakaaLwLib
namespace Go.Proofs.Ytpabcpiiolfakaa

/-- What agrees with its opposite. -/
def SymB (f : Nat → Bool) : Prop := ∀ c, c < 16 → f (oppN c) = f c
theorem SymB.cv {f : Nat → Bool} (h : SymB f) : cvB 16 f = true := cvB_good fun c hc => by simp [cok, h c hc]
theorem SymB.or {f g : Nat → Bool} (h : SymB f) (k : SymB g) : SymB (fun c => f c || g c) := fun c hc => by simp only [h c hc, k c hc]
theorem SymB.tr (k : Int) (X Y : Nat → Int) (n : Nat) : SymB (trB k X Y n) := fun _ hc => trB_opp k X Y n hc
theorem torn_opp : ∀ c : Fin 16, tornN (oppN c.val) = oppN (tornN c.val) := by decide
theorem torn_two : ∀ c : Fin 16, tornN (tornN c.val) = oppN c.val := by decide
theorem SymB.torn {f : Nat → Bool} (h : SymB f) : SymB (fun c => f (tornN c)) := fun c hc => by
  have e := torn_opp ⟨c, hc⟩
  simp only at e
  show f (tornN (oppN c)) = f (tornN c)
  rw [e]
  exact h _ (tornN_lt c)
theorem SymB.false_ : SymB (fun _ => false) := fun _ _ => rfl

/-- The cells of K channels. -/
def chB (X Y : Nat → Int) (n K c : Nat) : Bool := anyN K fun a => trB ((a + 1 : Nat) : Int) X Y n c
theorem chB_zero (X Y : Nat → Int) (n c : Nat) : chB X Y n 0 c = false := rfl
theorem chB_succ (X Y : Nat → Int) (n K c : Nat) : chB X Y n (K + 1) c = (chB X Y n K c || trB ((K + 1 : Nat) : Int) X Y n c) := anyN_succ _ _
theorem chB_one (X Y : Nat → Int) (n c : Nat) : chB X Y n 1 c = trB 1 X Y n c := by rw [chB_succ, chB_zero]; simp
theorem SymB.ch (X Y : Nat → Int) (n : Nat) : ∀ K, SymB (chB X Y n K)
  | 0 => SymB.false_
  | K + 1 => fun c hc => by rw [chB_succ, chB_succ, SymB.ch X Y n K c hc, trB_opp _ X Y n hc]
theorem chB_iff {X Y : Nat → Int} {n K c : Nat} : chB X Y n K c = true ↔ ∃ a, a < K ∧ trB ((a + 1 : Nat) : Int) X Y n c = true := anyN_iff
theorem chB_mono {X Y : Nat → Int} {n K L c : Nat} (h : K ≤ L) (e : chB X Y n K c = true) : chB X Y n L c = true := by
  obtain ⟨a, ha, e⟩ := chB_iff.1 e
  exact chB_iff.2 ⟨a, by omega, e⟩
/-- Four channels tell all. -/
theorem chB_four {X Y : Nat → Int} {n K c : Nat} (e : chB X Y n K c = true) : chB X Y n 4 c = true := by
  obtain ⟨a, ha, e⟩ := chB_iff.1 e
  have red : ∀ q r : Nat, trB ((4 * q + r : Nat) : Int) X Y n c = trB ((r : Nat) : Int) X Y n c := by
    intro q r
    induction q with
    | zero => rw [Nat.mul_zero, Nat.zero_add]
    | succ q ih =>
      rw [show ((4 * (q + 1) + r : Nat) : Int) = ((4 * q + r : Nat) : Int) + 4 from by omega, trB_side]
      exact ih
  by_cases hr : (a + 1) % 4 = 0
  · refine chB_iff.2 ⟨3, by omega, ?_⟩
    rw [show a + 1 = 4 * ((a + 1) / 4 - 1) + 4 from by omega, red] at e
    exact e
  · refine chB_iff.2 ⟨(a + 1) % 4 - 1, by omega, ?_⟩
    rw [show a + 1 = 4 * ((a + 1) / 4) + (a + 1) % 4 from by omega, red] at e
    rw [show (a + 1) % 4 - 1 + 1 = (a + 1) % 4 from by omega]
    exact e
theorem chB_turn (X Y : Nat → Int) (n K : Nat) {c : Nat} (hc : c < 16) : chB (fun i => -Y i) X n K c = chB X Y n K (tornN c) := by
  unfold chB
  exact anyN_congr fun a _ => trB_turn _ X Y n hc
theorem chB_less {X Y : Nat → Int} {m n K c : Nat} (h : m ≤ n) (e : chB X Y m K c = true) : chB X Y n K c = true := by
  obtain ⟨a, ha, e⟩ := chB_iff.1 e
  exact chB_iff.2 ⟨a, ha, trB_less _ X Y h c e⟩

/-- With the first cell. -/
def zeroB (f : Nat → Bool) (c : Nat) : Bool := if c = 0 then true else f c
theorem zeroB_sym {f : Nat → Bool} (h : SymB f) : SymB (zeroB f) := fun c hc => by
  have e : ∀ c : Fin 16, oppN c.val = 0 ↔ c.val = 0 := by decide
  have ec := e ⟨c, hc⟩
  simp only at ec
  unfold zeroB
  by_cases h0 : c = 0
  · rw [if_pos (ec.2 h0), if_pos h0]
  · rw [if_neg (fun e => h0 (ec.1 e)), if_neg h0]; exact h c hc
/-- Whether K channels cover all. -/
def fullB (X Y : Nat → Int) (n K : Nat) : Bool := decide (cmany (zeroB (chB X Y n K)) = 16)
/-- The least number of channels that cover all. -/
def tfN (p : Nat → Bool) : Int := if p 1 = true then 1 else if p 2 = true then 2 else if p 3 = true then 3 else if p 4 = true then 4 else 0
theorem tfN_hit {p : Nat → Bool} {K : Nat} (h1 : 1 ≤ K) (h4 : K ≤ 4) (h : ∀ j, 1 ≤ j → j < K → p j = false) (hK : p K = true) : tfN p = (K : Int) := by
  have hh : K = 1 ∨ K = 2 ∨ K = 3 ∨ K = 4 := by omega
  unfold tfN
  rcases hh with rfl | rfl | rfl | rfl
  · simp [hK]
  · simp [hK, h 1 (by omega) (by omega)]
  · simp [hK, h 1 (by omega) (by omega), h 2 (by omega) (by omega)]
  · simp [hK, h 1 (by omega) (by omega), h 2 (by omega) (by omega), h 3 (by omega) (by omega)]
theorem tfN_none {p : Nat → Bool} (h : ∀ j, 1 ≤ j → j < 5 → p j = false) : tfN p = 0 := by
  unfold tfN
  simp [h 1 (by omega) (by omega), h 2 (by omega) (by omega), h 3 (by omega) (by omega), h 4 (by omega) (by omega)]
theorem tfN_cases (p : Nat → Bool) : (tfN p = 0 ∧ ∀ j, 1 ≤ j → j < 5 → p j = false) ∨ ∃ K : Nat, 1 ≤ K ∧ K ≤ 4 ∧ tfN p = (K : Int) ∧ p K = true ∧ ∀ j, 1 ≤ j → j < K → p j = false := by
  cases h1 : p 1 with
  | true => exact .inr ⟨1, by omega, by omega, tfN_hit (by omega) (by omega) (fun j _ _ => by omega) h1, h1, fun j _ _ => by omega⟩
  | false =>
    cases h2 : p 2 with
    | true =>
      have q : ∀ j, 1 ≤ j → j < 2 → p j = false := fun j a b => by
        obtain rfl : j = 1 := by omega
        exact h1
      exact .inr ⟨2, by omega, by omega, tfN_hit (by omega) (by omega) q h2, h2, q⟩
    | false =>
      cases h3 : p 3 with
      | true =>
        have q : ∀ j, 1 ≤ j → j < 3 → p j = false := fun j a b => by
          have : j = 1 ∨ j = 2 := by omega
          rcases this with rfl | rfl
          · exact h1
          · exact h2
        exact .inr ⟨3, by omega, by omega, tfN_hit (by omega) (by omega) q h3, h3, q⟩
      | false =>
        have q : ∀ j, 1 ≤ j → j < 4 → p j = false := fun j a b => by
          have : j = 1 ∨ j = 2 ∨ j = 3 := by omega
          rcases this with rfl | rfl | rfl
          · exact h1
          · exact h2
          · exact h3
        cases h4 : p 4 with
        | true => exact .inr ⟨4, by omega, by omega, tfN_hit (by omega) (by omega) q h4, h4, q⟩
        | false =>
          refine .inl ⟨tfN_none fun j a b => ?_, fun j a b => ?_⟩
          all_goals
            by_cases e : j = 4
            · subst e; exact h4
            · exact q j a (by omega)
/-- The answer of the search. -/
def tfB (X Y : Nat → Int) (n : Nat) : Int := if avB X Y n = true then tfN (fullB X Y n) else -1

/-- A track. -/
def kvB (X Y : Nat → Int) (n c : Nat) : Bool := trB 1 X Y n c || trB 1 X Y n (tornN c)
theorem SymB.kv (X Y : Nat → Int) (n : Nat) : SymB (kvB X Y n) := SymB.or (SymB.tr 1 X Y n) (SymB.torn (SymB.tr 1 X Y n))
def tornP : Nat → Nat → Nat
  | 0, c => c
  | j + 1, c => tornP j (tornN c)
theorem tornP_lt : ∀ (j : Nat) {c : Nat}, c < 16 → tornP j c < 16
  | 0, _, h => h
  | j + 1, c, _ => tornP_lt j (tornN_lt c)
/-- What the reference has after j turns. -/
def rtB (X Y : Nat → Int) (n j c : Nat) : Bool := trB 1 X Y n (tornP j c)
def raB (X Y : Nat → Int) (n j c : Nat) : Bool := anyN (j + 1) fun a => rtB X Y n a c
theorem SymB.rt (X Y : Nat → Int) (n : Nat) : ∀ j, SymB (rtB X Y n j)
  | 0 => SymB.tr 1 X Y n
  | j + 1 => SymB.torn (SymB.rt X Y n j)
theorem raB_zero (X Y : Nat → Int) (n c : Nat) : raB X Y n 0 c = trB 1 X Y n c := by unfold raB rtB; rw [anyN_succ, anyN_zero]; rfl
theorem raB_succ (X Y : Nat → Int) (n j c : Nat) : raB X Y n (j + 1) c = (raB X Y n j c || rtB X Y n (j + 1) c) := anyN_succ _ _
theorem SymB.ra (X Y : Nat → Int) (n : Nat) : ∀ j, SymB (raB X Y n j)
  | 0 => fun c hc => by rw [raB_zero, raB_zero]; exact trB_opp 1 X Y n hc
  | j + 1 => fun c hc => by rw [raB_succ, raB_succ, SymB.ra X Y n j c hc, SymB.rt X Y n (j + 1) c hc]
theorem rtB_torn (X Y : Nat → Int) (n j c : Nat) : rtB X Y n (j + 1) c = rtB X Y n j (tornN c) := rfl
theorem raB_three (X Y : Nat → Int) (n : Nat) {c : Nat} (hc : c < 16) : raB X Y n 3 c = kvB X Y n c := by
  have e2 : rtB X Y n 2 c = trB 1 X Y n c := by
    have t := torn_two ⟨c, hc⟩
    simp only at t
    show trB 1 X Y n (tornN (tornN c)) = _
    rw [t]; exact trB_opp 1 X Y n hc
  have e3 : rtB X Y n 3 c = trB 1 X Y n (tornN c) := by
    have t := torn_two ⟨tornN c, tornN_lt c⟩
    simp only at t
    show trB 1 X Y n (tornN (tornN (tornN c))) = _
    rw [t]; exact trB_opp 1 X Y n (tornN_lt c)
  rw [raB_succ, raB_succ, raB_succ, raB_zero, e2, e3]
  show (((trB 1 X Y n c || trB 1 X Y n (tornN c)) || trB 1 X Y n c) || trB 1 X Y n (tornN c)) = _
  unfold kvB
  cases trB 1 X Y n c <;> cases trB 1 X Y n (tornN c) <;> rfl
theorem kvB_torn (X Y : Nat → Int) (n : Nat) {c : Nat} (hc : c < 16) : kvB X Y n (tornN c) = kvB X Y n c := by
  have t := torn_two ⟨c, hc⟩
  simp only at t
  unfold kvB
  rw [t, trB_opp 1 X Y n hc, Bool.or_comm]
theorem kvB_turn (X Y : Nat → Int) (n : Nat) {c : Nat} (hc : c < 16) : kvB (fun i => -Y i) X n c = kvB X Y n c := by
  rw [← kvB_torn X Y n hc]
  unfold kvB
  rw [trB_turn 1 X Y n hc, trB_turn 1 X Y n (tornN_lt c)]
theorem kvB_tn (X Y : Nat → Int) (n : Nat) : ∀ (k : Nat) {c : Nat}, c < 16 → kvB (tnX X Y k).1 (tnX X Y k).2 n c = kvB X Y n c
  | 0, _, _ => rfl
  | k + 1, c, hc => by
    show kvB (fun i => -(tnX X Y k).2 i) (tnX X Y k).1 n c = _
    rw [kvB_turn _ _ n hc]
    exact kvB_tn X Y n k hc
theorem kvB_shift (x y : Int) (X Y : Nat → Int) (n c : Nat) : kvB (fun i => X i + x) (fun i => Y i + y) n c = kvB X Y n c := by
  unfold kvB; rw [trB_shift, trB_shift]
end Go.Proofs.Ytpabcpiiolfakaa
