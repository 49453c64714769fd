/-
  Plain laws on fringes: turns, scores, fits. No program.
-/
import Derived.Test.YtpanefjjghlhiaaFrPlain
namespace Go.Proofs.Ytpanefjjghlhiaa

theorem four {d : Int} (h1 : 0 ≤ d) (h2 : d ≤ 3) : d = 0 ∨ d = 1 ∨ d = 2 ∨ d = 3 := by omega

/-- A product with a remainder modulo 4. -/
theorem mulmod (d e : Int) (c : Nat) (h : d % 4 = e % 4) : (d * (c : Int)) % 4 = (e * (c : Int)) % 4 := by
  rw [Int.mul_emod, h, ← Int.mul_emod]

/-- The quarter phase at a cell is that of the fringes if and only if nothing is left. -/
theorem tn_zero {f : Nat → Nat → Int} {d r p : Int} {c t : Nat} (h : 0 ≤ f c t ∧ f c t ≤ 3) : tnF f d r p c t = 0 ↔ f c t = frF d r p c t := by
  unfold tnF frF
  generalize d * (c : Int) = x
  generalize r * (t : Int) = y
  omega
/-- Turning twice. -/
theorem tn_tn (f : Nat → Nat → Int) (d r p a b e D R P : Int) (hD : D % 4 = (d + a) % 4) (hR : R % 4 = (r + b) % 4) (hP : P % 4 = (p + e) % 4) (c t : Nat) : tnF (tnF f d r p) a b e c t = tnF f D R P c t := by
  have h1 := mulmod D (d + a) c hD
  have h2 := mulmod R (r + b) t hR
  rw [Int.add_mul] at h1 h2
  unfold tnF
  generalize d * (c : Int) = x1 at *
  generalize a * (c : Int) = x2 at *
  generalize D * (c : Int) = x3 at *
  generalize r * (t : Int) = y1 at *
  generalize b * (t : Int) = y2 at *
  generalize R * (t : Int) = y3 at *
  omega
theorem tn_none {f : Nat → Nat → Int} {d r p : Int} {c t : Nat} (h : 0 ≤ f c t ∧ f c t ≤ 3) (hd : d % 4 = 0) (hr : r % 4 = 0) (hp : p % 4 = 0) : tnF f d r p c t = f c t := by
  have h1 := mulmod d 0 c (by omega)
  have h2 := mulmod r 0 t (by omega)
  rw [Int.zero_mul] at h1 h2
  unfold tnF
  generalize d * (c : Int) = x at *
  generalize r * (t : Int) = y at *
  omega
theorem tn_fr (d r p : Int) (c t : Nat) : tnF (frF d r p) d r p c t = 0 := (tn_zero (frF_bd d r p c t)).2 rfl
/-- The score of turned fringes. -/
theorem tn_sc1 {f : Nat → Nat → Int} {d r p a b e D R P : Int} (hD : D % 4 = (d + a) % 4) (hR : R % 4 = (r + b) % 4) (hP : P % 4 = (p + e) % 4) {c t : Nat} (h : 0 ≤ f c t ∧ f c t ≤ 3) :
    sc1 (tnF f d r p) a b e c t = sc1 f D R P c t := by
  have h1 := tn_zero (f := tnF f d r p) (d := a) (r := b) (p := e) (tnF_bd f d r p c t)
  have h2 := tn_zero (d := D) (r := R) (p := P) h
  rw [tn_tn f d r p a b e D R P hD hR hP c t] at h1
  unfold sc1
  by_cases hc : tnF f D R P c t = 0
  · rw [if_pos (h1.1 hc), if_pos (h2.1 hc)]
  · rw [if_neg (fun h => hc (h1.2 h)), if_neg (fun h => hc (h2.2 h))]
theorem sumN_congr {f g : Nat → Int} : ∀ n, (∀ k, k < n → f k = g k) → sumN f n = sumN g n := by
  intro n
  induction n with
  | zero => intro _; rfl
  | succ n ih => intro h; simp only [sumN]; rw [ih (fun k hk => h k (by omega)), h n (by omega)]
theorem sumN_le {f g : Nat → Int} : ∀ n, (∀ k, k < n → f k ≤ g k) → sumN f n ≤ sumN g n := by
  intro n
  induction n with
  | zero => intro _; simp [sumN]
  | succ n ih => intro h; simp only [sumN]; have := ih (fun k hk => h k (by omega)); have := h n (by omega); omega
theorem sumN_const (x : Int) : ∀ n : Nat, sumN (fun _ => x) n = n * x := by
  intro n
  induction n with
  | zero => simp [sumN]
  | succ n ih => simp only [sumN]; rw [ih, Int.natCast_add, Int.add_mul]; omega
theorem score_congr {n l : Nat} {f g : Nat → Nat → Int} {d r p a b e : Int} (h : ∀ c, c < n → ∀ t, t < l → sc1 f d r p c t = sc1 g a b e c t) : score n l f d r p = score n l g a b e :=
  sumN_congr n fun c hc => sumN_congr l fun t ht => h c hc t ht
/-- Valid quarter phases. -/
def Q4 (n l : Nat) (f : Nat → Nat → Int) : Prop := ∀ c, c < n → ∀ t, t < l → 0 ≤ f c t ∧ f c t ≤ 3
theorem score_tn {n l : Nat} {f : Nat → Nat → Int} {d r p a b e D R P : Int} (hf : Q4 n l f) (hD : D % 4 = (d + a) % 4) (hR : R % 4 = (r + b) % 4) (hP : P % 4 = (p + e) % 4) :
    score n l (tnF f d r p) a b e = score n l f D R P := score_congr fun c hc t ht => tn_sc1 hD hR hP (hf c hc t ht)
/-- Score as what is left. -/
def zc (x : Int) : Int := if x = 0 then 1 else 0
theorem zc_tn {f : Nat → Nat → Int} {d r p : Int} {c t : Nat} (h : 0 ≤ f c t ∧ f c t ≤ 3) : zc (tnF f d r p c t) = sc1 f d r p c t := by
  unfold zc sc1
  by_cases hc : tnF f d r p c t = 0
  · rw [if_pos hc, if_pos ((tn_zero h).1 hc)]
  · rw [if_neg hc, if_neg (fun e => hc ((tn_zero h).2 e))]

/-! ### All starts -/
theorem sc1_four {f : Nat → Nat → Int} {d r : Int} {c t : Nat} (h : 0 ≤ f c t ∧ f c t ≤ 3) : sc1 f d r 0 c t + sc1 f d r 1 c t + sc1 f d r 2 c t + sc1 f d r 3 c t = 1 := by
  unfold sc1 frF
  generalize d * (c : Int) + r * (t : Int) = x
  obtain ⟨h1, h2⟩ := h
  generalize f c t = y at *
  split <;> split <;> split <;> split <;> omega
theorem sumN_add (f g : Nat → Int) : ∀ n, sumN (fun k => f k + g k) n = sumN f n + sumN g n := by
  intro n
  induction n with
  | zero => rfl
  | succ n ih => simp only [sumN]; rw [ih]; omega
theorem score_four {n l : Nat} {f : Nat → Nat → Int} (d r : Int) (hf : Q4 n l f) : score n l f d r 0 + score n l f d r 1 + score n l f d r 2 + score n l f d r 3 = n * l := by
  unfold score
  rw [← sumN_add, ← sumN_add, ← sumN_add]
  rw [← sumN_const]
  refine sumN_congr n fun c hc => ?_
  show scRow l f d r 0 c + scRow l f d r 1 c + scRow l f d r 2 c + scRow l f d r 3 c = _
  unfold scRow
  rw [← sumN_add, ← sumN_add, ← sumN_add]
  have := sumN_const 1 l
  rw [Int.mul_one] at this
  rw [← this]
  exact sumN_congr l fun t ht => sc1_four (hf c hc t ht)

/-! ### The fit -/
theorem fitN_lt (n l : Nat) (f : Nat → Nat → Int) : fitN n l f < 64 := bestN_lt _ 64 (by omega)
/-- The greatest score. -/
def top (n l : Nat) (f : Nat → Nat → Int) : Int := scN n l f (fitN n l f)
theorem scN_of {n l : Nat} {f : Nat → Nat → Int} {d r p : Int} (h : q3 d r p = true) : ∃ k : Nat, k < 64 ∧ (k : Int) = 16 * d + 4 * r + p ∧ scN n l f k = score n l f d r p := by
  obtain ⟨h1, h2, h3⟩ := q3_true h
  refine ⟨(16 * d + 4 * r + p).toNat, by omega, by omega, ?_⟩
  unfold scN
  have e1 : (((16 * d + 4 * r + p).toNat / 16 : Nat) : Int) = d := by omega
  have e2 : (((16 * d + 4 * r + p).toNat / 4 % 4 : Nat) : Int) = r := by omega
  have e3 : (((16 * d + 4 * r + p).toNat % 4 : Nat) : Int) = p := by omega
  rw [e1, e2, e3]
theorem top_ge {n l : Nat} {f : Nat → Nat → Int} {d r p : Int} (h : q3 d r p = true) : score n l f d r p ≤ top n l f := by
  obtain ⟨k, hk, _, e⟩ := scN_of (n := n) (l := l) (f := f) h
  rw [← e]
  exact bestN_ge (scN n l f) 64 k hk
/-- The three numbers of a fit. -/
def fd (k : Nat) : Int := ((k / 16 : Nat) : Int)
def fr (k : Nat) : Int := ((k / 4 % 4 : Nat) : Int)
def fp (k : Nat) : Int := ((k % 4 : Nat) : Int)
theorem f_q3 {k : Nat} (h : k < 64) : q3 (fd k) (fr k) (fp k) = true := q3_mk (by unfold fd; omega) (by unfold fr; omega) (by unfold fp; omega)
theorem top_fit (n l : Nat) (f : Nat → Nat → Int) : score n l f (fd (fitN n l f)) (fr (fitN n l f)) (fp (fitN n l f)) = top n l f := rfl
/-- The fit is the only one with its score or more, then it is it. -/
theorem fit_only {n l : Nat} {f : Nat → Nat → Int} {d r p : Int} (h : q3 d r p = true) (ho : ∀ a b e, q3 a b e = true → ¬ (a = d ∧ b = r ∧ e = p) → score n l f a b e < score n l f d r p) :
    fd (fitN n l f) = d ∧ fr (fitN n l f) = r ∧ fp (fitN n l f) = p := by
  have h1 := top_ge (n := n) (l := l) (f := f) h
  have h2 := top_fit n l f
  have h3 := ho _ _ _ (f_q3 (fitN_lt n l f))
  by_cases hc : fd (fitN n l f) = d ∧ fr (fitN n l f) = r ∧ fp (fitN n l f) = p
  · exact hc
  · have := h3 hc; omega
theorem top_tn {n l : Nat} {f : Nat → Nat → Int} {d r p : Int} (hf : Q4 n l f) : top n l (tnF f d r p) = top n l f := by
  have e1 : top n l (tnF f d r p) ≤ top n l f := by
    rw [← top_fit n l (tnF f d r p)]
    rw [score_tn (D := (d + fd (fitN n l (tnF f d r p))) % 4) (R := (r + fr (fitN n l (tnF f d r p))) % 4) (P := (p + fp (fitN n l (tnF f d r p))) % 4) hf (by omega) (by omega) (by omega)]
    exact top_ge (q3_mk (by omega) (by omega) (by omega))
  have e2 : top n l f ≤ top n l (tnF f d r p) := by
    rw [← top_fit n l f]
    rw [← score_tn (d := d) (r := r) (p := p) (a := (fd (fitN n l f) - d) % 4) (b := (fr (fitN n l f) - r) % 4) (e := (fp (fitN n l f) - p) % 4) hf (by omega) (by omega) (by omega)]
    exact top_ge (q3_mk (by omega) (by omega) (by omega))
  omega
theorem top_first {n l : Nat} {f : Nat → Nat → Int} {k : Nat} (h : k < fitN n l f) : scN n l f k < top n l f := bestN_first (scN n l f) 64 k h
theorem top_four {n l : Nat} {f : Nat → Nat → Int} (hf : Q4 n l f) : (n : Int) * l ≤ top n l f * 4 := by
  have h := score_four (fd (fitN n l f)) (fr (fitN n l f)) hf
  have q := q3_true (f_q3 (fitN_lt n l f))
  have h0 := top_ge (n := n) (l := l) (f := f) (q3_mk (p := 0) q.1 q.2.1 (by omega))
  have h1 := top_ge (n := n) (l := l) (f := f) (q3_mk (p := 1) q.1 q.2.1 (by omega))
  have h2 := top_ge (n := n) (l := l) (f := f) (q3_mk (p := 2) q.1 q.2.1 (by omega))
  have h3 := top_ge (n := n) (l := l) (f := f) (q3_mk (p := 3) q.1 q.2.1 (by omega))
  omega

/-! ### Fringes' own numbers -/
theorem score_own (n l : Nat) (d r p : Int) : score n l (frF d r p) d r p = n * l := by
  unfold score
  rw [← sumN_const]
  refine sumN_congr n fun c _ => ?_
  unfold scRow
  have := sumN_const 1 l
  rw [Int.mul_one] at this
  rw [← this]
  exact sumN_congr l fun t _ => by simp [sc1]
theorem top_own {n l : Nat} {d r p : Int} (h : q3 d r p = true) : top n l (frF d r p) = n * l := by
  have h1 := top_ge (n := n) (l := l) (f := frF d r p) h
  rw [score_own] at h1
  have h2 := (score_bd n l (frF d r p) (fd (fitN n l (frF d r p))) (fr (fitN n l (frF d r p))) (fp (fitN n l (frF d r p)))).2
  rw [top_fit] at h2
  omega
/-- One cell short. -/
theorem sumN_short {f : Nat → Int} {M : Int} : ∀ n, (∀ k, k < n → f k ≤ M) → ∀ k, k < n → sumN f n ≤ n * M - M + f k := by
  intro n
  induction n with
  | zero => intro _ k hk; omega
  | succ n ih =>
    intro h k hk
    simp only [sumN]
    rw [Int.natCast_add, Int.add_mul]
    have hn := h n (by omega)
    by_cases e : k = n
    · subst e
      have : sumN f k ≤ k * M := by
        have := sumN_le (f := f) (g := fun _ => M) k (fun j hj => h j (by omega))
        rw [sumN_const] at this; exact this
      omega
    · have := ih (fun j hj => h j (by omega)) k (by omega); omega
theorem score_short {n l : Nat} {f : Nat → Nat → Int} {d r p : Int} {c t : Nat} (hc : c < n) (ht : t < l) (h : sc1 f d r p c t = 0) : score n l f d r p ≤ n * l - 1 := by
  have h1 := sumN_short (f := scRow l f d r p) (M := l) n (fun k _ => (scRow_bd l f d r p k).2) c hc
  have h2 := sumN_short (f := sc1 f d r p c) (M := 1) l (fun k _ => (sc1_bd f d r p c k).2) t ht
  have h3 : scRow l f d r p c = sumN (sc1 f d r p c) l := rfl
  have h4 : score n l f d r p = sumN (scRow l f d r p) n := rfl
  omega
theorem fit_own {n l : Nat} {d r p : Int} (h : q3 d r p = true) (hn : 2 ≤ n) (hl : 2 ≤ l) : fd (fitN n l (frF d r p)) = d ∧ fr (fitN n l (frF d r p)) = r ∧ fp (fitN n l (frF d r p)) = p := by
  refine fit_only h fun a b e hq hne => ?_
  rw [score_own]
  obtain ⟨d1, r1, p1⟩ := q3_true h
  obtain ⟨a1, b1, e1⟩ := q3_true hq
  by_cases k1 : e = p
  · by_cases k2 : b = r
    · have k3 : a ≠ d := fun k3 => hne ⟨k3, k2, k1⟩
      have := score_short (n := n) (l := l) (f := frF d r p) (d := a) (r := b) (p := e) (c := 1) (t := 0) (by omega) (by omega) (by unfold sc1 frF; rw [if_neg (by simp; omega)])
      omega
    · have := score_short (n := n) (l := l) (f := frF d r p) (d := a) (r := b) (p := e) (c := 0) (t := 1) (by omega) (by omega) (by unfold sc1 frF; rw [if_neg (by simp; omega)])
      omega
  · have := score_short (n := n) (l := l) (f := frF d r p) (d := a) (r := b) (p := e) (c := 0) (t := 0) (by omega) (by omega) (by unfold sc1 frF; rw [if_neg (by simp; omega)])
    omega

/-! ### One wrong quarter phase -/
/-- f with x at one cell. -/
def onF (f : Nat → Nat → Int) (c0 t0 : Nat) (x : Int) (c t : Nat) : Int := if c = c0 then (if t = t0 then x else f c t) else f c t
theorem sc1_on (f : Nat → Nat → Int) (c0 t0 : Nat) (x : Int) (d r p : Int) (c t : Nat) (h : ¬ (c = c0 ∧ t = t0)) : sc1 (onF f c0 t0 x) d r p c t = sc1 f d r p c t := by
  unfold sc1 onF
  by_cases e1 : c = c0
  · rw [if_pos e1, if_neg (fun e2 => h ⟨e1, e2⟩)]
  · rw [if_neg e1]
theorem sumN_near {f g : Nat → Int} (k0 : Nat) (x : Int) (hx : 0 ≤ x) : ∀ n, (∀ k, k < n → k ≠ k0 → f k = g k) → (∀ k, k = k0 → f k - g k ≤ x ∧ g k - f k ≤ x) → sumN f n - sumN g n ≤ x ∧ sumN g n - sumN f n ≤ x := by
  intro n
  induction n with
  | zero => intro _ _; simp [sumN]; omega
  | succ n ih =>
    intro h h0
    simp only [sumN]
    by_cases e : n = k0
    · have e1 := sumN_congr (f := f) (g := g) n (fun k hk => h k (by omega) (by omega))
      have e2 := h0 n e
      omega
    · have e1 := ih (fun k hk => h k (by omega)) h0
      have e2 := h n (by omega) e
      omega
theorem score_near (n l : Nat) (f : Nat → Nat → Int) (c0 t0 : Nat) (x d r p : Int) : score n l (onF f c0 t0 x) d r p - score n l f d r p ≤ 1 ∧ score n l f d r p - score n l (onF f c0 t0 x) d r p ≤ 1 := by
  refine sumN_near c0 1 (by omega) n (fun c _ hc => ?_) (fun c hc => ?_)
  · exact sumN_congr l fun t _ => sc1_on f c0 t0 x d r p c t (fun h => hc h.1)
  · refine sumN_near t0 1 (by omega) l (fun t _ ht => sc1_on f c0 t0 x d r p c t (fun h => ht h.2)) (fun t _ => ?_)
    have := sc1_bd (onF f c0 t0 x) d r p c t
    have := sc1_bd f d r p c t
    omega
/-- What is beyond the first rows adds at most all. -/
theorem sumN_cut {f : Nat → Int} {M : Int} (m : Nat) : ∀ k, (∀ j, f j ≤ M) → sumN f (m + k) ≤ sumN f m + k * M := by
  intro k
  induction k with
  | zero => intro _; simp
  | succ k ih =>
    intro h
    have := ih h
    have := h (m + k)
    rw [← Nat.add_assoc]
    simp only [sumN]
    rw [Int.natCast_add, Int.add_mul]
    omega
theorem score_cut (n l : Nat) (f : Nat → Nat → Int) (d r p : Int) : score (4 + n) (4 + l) f d r p ≤ score 4 4 f d r p + (4 + n : Nat) * (4 + l : Nat) - 16 := by
  have h1 := sumN_cut (f := scRow (4 + l) f d r p) (M := (4 + l : Nat)) 4 n (fun c => (scRow_bd (4 + l) f d r p c).2)
  have h2 : ∀ c, scRow (4 + l) f d r p c ≤ scRow 4 f d r p c + l := fun c => by
    have := sumN_cut (f := sc1 f d r p c) (M := 1) 4 l (fun t => (sc1_bd f d r p c t).2)
    unfold scRow; omega
  have h3 : sumN (scRow (4 + l) f d r p) 4 ≤ sumN (fun c => scRow 4 f d r p c + (l : Int)) 4 := sumN_le 4 fun c _ => h2 c
  rw [sumN_add, sumN_const] at h3
  have h4 : score 4 4 f d r p = sumN (scRow 4 f d r p) 4 := rfl
  have h5 : score (4 + n) (4 + l) f d r p = sumN (scRow (4 + l) f d r p) (4 + n) := rfl
  rw [h5, h4]
  have e1 : ((4 + n : Nat) : Int) * ((4 + l : Nat) : Int) = 16 + 4 * (l : Int) + (n : Int) * ((4 + l : Nat) : Int) := by
    rw [Int.natCast_add, Int.add_mul]; omega
  omega
/-- Two affine forms agree at eight cells of sixteen at most. -/
theorem score_44 : ∀ a b e : Fin 4, ¬ (a.val = 0 ∧ b.val = 0 ∧ e.val = 0) → score 4 4 (fun _ _ => 0) (a.val : Nat) (b.val : Nat) (e.val : Nat) ≤ 8 := by decide +kernel
theorem score_diff {n l : Nat} (d r p a b e : Int) : score n l (frF d r p) a b e = score n l (fun _ _ => 0) ((a - d) % 4) ((b - r) % 4) ((e - p) % 4) := by
  refine score_congr fun c _ t _ => ?_
  have h1 := tn_zero (f := frF d r p) (d := a) (r := b) (p := e) (frF_bd d r p c t)
  have h2 := mulmod ((a - d) % 4) (a - d) c (by omega)
  have h3 := mulmod ((b - r) % 4) (b - r) t (by omega)
  rw [Int.sub_mul] at h2 h3
  unfold sc1
  have h4 : (frF d r p c t = frF a b e c t) ↔ (0 = frF ((a - d) % 4) ((b - r) % 4) ((e - p) % 4) c t) := by
    unfold frF
    generalize (a - d) % 4 * (c : Int) = x1 at *
    generalize (b - r) % 4 * (t : Int) = x2 at *
    generalize a * (c : Int) = x3 at *
    generalize d * (c : Int) = x4 at *
    generalize b * (t : Int) = x5 at *
    generalize r * (t : Int) = x6 at *
    omega
  by_cases hc : frF d r p c t = frF a b e c t
  · rw [if_pos hc, if_pos (h4.1 hc)]
  · rw [if_neg hc, if_neg (fun h => hc (h4.2 h))]
theorem fit_wrong {n l : Nat} {d r p x : Int} {c0 t0 : Nat} (h : q3 d r p = true) (hn : 4 ≤ n) (hl : 4 ≤ l) :
    fd (fitN n l (onF (frF d r p) c0 t0 x)) = d ∧ fr (fitN n l (onF (frF d r p) c0 t0 x)) = r ∧ fp (fitN n l (onF (frF d r p) c0 t0 x)) = p := by
  refine fit_only h fun a b e hq hne => ?_
  have n1 := score_near n l (frF d r p) c0 t0 x d r p
  rw [score_own] at n1
  have n2 := score_near n l (frF d r p) c0 t0 x a b e
  obtain ⟨d1, r1, p1⟩ := q3_true h
  obtain ⟨a1, b1, e1⟩ := q3_true hq
  obtain ⟨n', rfl⟩ : ∃ m, n = 4 + m := ⟨n - 4, by omega⟩
  obtain ⟨l', rfl⟩ : ∃ m, l = 4 + m := ⟨l - 4, by omega⟩
  have n3 := score_cut n' l' (frF d r p) a b e
  have n4 : score 4 4 (frF d r p) a b e ≤ 8 := by
    rw [score_diff]
    have := score_44 ⟨((a - d) % 4).toNat, by omega⟩ ⟨((b - r) % 4).toNat, by omega⟩ ⟨((e - p) % 4).toNat, by omega⟩ (by simp only; omega)
    simp only at this
    rwa [Int.toNat_of_nonneg (by omega), Int.toNat_of_nonneg (by omega), Int.toNat_of_nonneg (by omega)] at this
  omega
end Go.Proofs.Ytpanefjjghlhiaa
