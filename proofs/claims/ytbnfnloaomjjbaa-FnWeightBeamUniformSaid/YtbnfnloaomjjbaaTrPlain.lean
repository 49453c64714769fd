/-
  Plain words on arrays: valid ones, the pairs of antennas in their order, the cells that a factor covers. No program.
-/
import Derived.Test.YtbnfnloaomjjbaaPlain
namespace Go.Proofs.Ytbnfnloaomjjbaa

/-- Whether some index below n has p. -/
def anyN (n : Nat) (p : Nat → Bool) : Bool := (List.range n).any p
theorem anyN_iff {n : Nat} {p : Nat → Bool} : anyN n p = true ↔ ∃ k, k < n ∧ p k = true := by simp [anyN]
theorem anyN_zero (p : Nat → Bool) : anyN 0 p = false := rfl
theorem anyN_succ (n : Nat) (p : Nat → Bool) : anyN (n + 1) p = (anyN n p || p n) := by simp [anyN, List.range_succ]
theorem anyN_congr {n : Nat} {p q : Nat → Bool} (h : ∀ k, k < n → p k = q k) : anyN n p = anyN n q := by
  rw [Bool.eq_iff_iff, anyN_iff, anyN_iff]
  exact ⟨fun ⟨k, hk, e⟩ => ⟨k, hk, by rw [← h k hk]; exact e⟩, fun ⟨k, hk, e⟩ => ⟨k, hk, by rw [h k hk]; exact e⟩⟩
theorem bool_ext {a b : Bool} (h : a = true ↔ b = true) : a = b := Bool.eq_iff_iff.2 h

/-! ### Arrays -/
/-- A place. -/
def plB (x y : Int) : Bool := inB (-1000) 1000 x && inB (-1000) 1000 y
/-- Antenna i is one of those ahead of it. -/
def dupB (X Y : Nat → Int) (i m : Nat) : Bool := anyN m fun j => decide (X j = X i ∧ Y j = Y i)
/-- Antenna i is good. -/
def aokB (X Y : Nat → Int) (i : Nat) : Bool := plB (X i) (Y i) && !dupB X Y i i
/-- Valid arrays. -/
def avB (X Y : Nat → Int) (n : Nat) : Bool := inB 2 7 n && allN n (aokB X Y)
theorem plB_true {x y : Int} (h : plB x y = true) : (-1000 ≤ x ∧ x ≤ 1000) ∧ -1000 ≤ y ∧ y ≤ 1000 := by
  simp only [plB, Bool.and_eq_true] at h
  exact ⟨inB_true h.1, inB_true h.2⟩
theorem plB_mk {x y : Int} (h : -1000 ≤ x ∧ x ≤ 1000) (h' : -1000 ≤ y ∧ y ≤ 1000) : plB x y = true := by
  simp [plB, inB_mk h.1 h.2, inB_mk h'.1 h'.2]
theorem avB_true {X Y : Nat → Int} {n : Nat} (h : avB X Y n = true) : (2 ≤ n ∧ n ≤ 7) ∧ (∀ i, i < n → (-1000 ≤ X i ∧ X i ≤ 1000) ∧ -1000 ≤ Y i ∧ Y i ≤ 1000) ∧ ∀ i j, i < n → j < n → i ≠ j → ¬ (X i = X j ∧ Y i = Y j) := by
  simp only [avB, Bool.and_eq_true] at h
  obtain ⟨h1, h2⟩ := h
  have h1 := inB_true h1
  have h2 := allN_iff.1 h2
  have h3 : ∀ i, i < n → ∀ j, j < i → ¬ (X j = X i ∧ Y j = Y i) := fun i hi j hj e => by
    have h4 := h2 i hi
    simp only [aokB, Bool.and_eq_true, Bool.not_eq_true'] at h4
    have h5 : dupB X Y i i = true := anyN_iff.2 ⟨j, hj, by simpa using e⟩
    rw [h4.2] at h5
    cases h5
  refine ⟨by omega, fun i hi => ?_, fun i j hi hj hne e => ?_⟩
  · have h4 := h2 i hi
    simp only [aokB, Bool.and_eq_true] at h4
    exact plB_true h4.1
  · by_cases hlt : i < j
    · exact h3 j hj i hlt e
    · exact h3 i hi j (by omega) ⟨e.1.symm, e.2.symm⟩
theorem avB_mk {X Y : Nat → Int} {n : Nat} (h1 : 2 ≤ n) (h2 : n ≤ 7) (h3 : ∀ i, i < n → (-1000 ≤ X i ∧ X i ≤ 1000) ∧ -1000 ≤ Y i ∧ Y i ≤ 1000) (h4 : ∀ i j, i < n → j < n → i ≠ j → ¬ (X i = X j ∧ Y i = Y j)) : avB X Y n = true := by
  simp only [avB, Bool.and_eq_true]
  refine ⟨inB_mk (by omega) (by omega), allN_mk fun i hi => ?_⟩
  simp only [aokB, Bool.and_eq_true, Bool.not_eq_true']
  refine ⟨plB_mk (h3 i hi).1 (h3 i hi).2, ?_⟩
  rw [Bool.eq_false_iff]
  intro e
  obtain ⟨j, hj, e⟩ := anyN_iff.1 e
  exact h4 j i (by omega) hi (by omega) (by simpa using e)
theorem avB_all {X Y : Nat → Int} {n : Nat} (h1 : 2 ≤ n) (h2 : n ≤ 7) (h : AllTo (aokB X Y) n) : avB X Y n = true := by
  simp only [avB, Bool.and_eq_true]
  exact ⟨inB_mk (by omega) (by omega), allN_mk h⟩
theorem avB_bad {X Y : Nat → Int} {n i : Nat} (hi : i < n) (h : aokB X Y i = false) : avB X Y n = false := by simp [avB, allN_bad hi h]
theorem avB_len {X Y : Nat → Int} {n : Nat} (h : n < 2 ∨ 7 < n) : avB X Y n = false := by
  simp [avB, inB]
  omega
theorem aok_pl {X Y : Nat → Int} {i : Nat} (h : plB (X i) (Y i) = false) : aokB X Y i = false := by simp [aokB, h]
theorem aok_dup {X Y : Nat → Int} {i : Nat} (h : dupB X Y i i = true) : aokB X Y i = false := by simp [aokB, h]
theorem aok_yes {X Y : Nat → Int} {i : Nat} (h : plB (X i) (Y i) = true) (h' : dupB X Y i i = false) : aokB X Y i = true := by simp [aokB, h, h']
theorem dup_yes {X Y : Nat → Int} {i m j : Nat} (hj : j < m) (h1 : X j = X i) (h2 : Y j = Y i) : dupB X Y i m = true := anyN_iff.2 ⟨j, hj, by simp [h1, h2]⟩
theorem dup_step {X Y : Nat → Int} {i m : Nat} (h : dupB X Y i m = false) (h' : ¬ (X m = X i ∧ Y m = Y i)) : dupB X Y i (m + 1) = false := by
  unfold dupB at *
  rw [anyN_succ, h]
  simpa using h'

/-! ### Pairs -/
/-- The first m pairs of antenna i with later ones. -/
def rowP (i m : Nat) : List (Nat × Nat) := (List.range m).map fun t => (i, i + 1 + t)
/-- All pairs whose first is below i, of n antennas. -/
def prsTo (n i : Nat) : List (Nat × Nat) := (List.range i).flatMap fun r => rowP r (n - 1 - r)
/-- All pairs of n antennas. -/
def prs (n : Nat) : List (Nat × Nat) := prsTo n n
theorem rowP_zero (i : Nat) : rowP i 0 = [] := rfl
theorem rowP_succ (i m : Nat) : rowP i (m + 1) = rowP i m ++ [(i, i + 1 + m)] := by simp [rowP, List.range_succ]
theorem prsTo_zero (n : Nat) : prsTo n 0 = [] := rfl
theorem prsTo_succ (n i : Nat) : prsTo n (i + 1) = prsTo n i ++ rowP i (n - 1 - i) := by simp [prsTo, List.range_succ]
theorem mem_rowP {i m : Nat} {p : Nat × Nat} : p ∈ rowP i m ↔ p.1 = i ∧ i < p.2 ∧ p.2 < i + 1 + m := by
  simp only [rowP, List.mem_map, List.mem_range]
  constructor
  · rintro ⟨t, ht, rfl⟩
    exact ⟨rfl, by show i < i + 1 + t; omega, by show i + 1 + t < i + 1 + m; omega⟩
  · rintro ⟨h1, h2, h3⟩
    exact ⟨p.2 - (i + 1), by omega, Prod.ext h1.symm (by show i + 1 + (p.2 - (i + 1)) = p.2; omega)⟩
theorem mem_prs {n : Nat} {p : Nat × Nat} : p ∈ prs n ↔ p.1 < p.2 ∧ p.2 < n := by
  simp only [prs, prsTo, List.mem_flatMap, List.mem_range]
  constructor
  · rintro ⟨r, hr, h⟩
    have := mem_rowP.1 h
    omega
  · rintro ⟨h1, h2⟩
    exact ⟨p.1, by omega, mem_rowP.2 ⟨rfl, h1, by omega⟩⟩
theorem rowP_len (i m : Nat) : (rowP i m).length = m := by simp [rowP]
theorem prs_len : ∀ n : Fin 8, (prs n.val).length = n.val * (n.val - 1) / 2 := by decide

theorem prsTo_mono (n : Nat) {a b : Nat} (h : a ≤ b) : (prsTo n a).length ≤ (prsTo n b).length := by
  induction b with
  | zero => obtain rfl : a = 0 := by omega
            exact Nat.le_refl _
  | succ b ih =>
    by_cases e : a = b + 1
    · rw [e]; exact Nat.le_refl _
    · have := ih (by omega)
      rw [prsTo_succ, List.length_append]
      omega
theorem prs_room {n i t : Nat} (h : i + 1 + t < n) : (prsTo n i ++ rowP i t).length < (prs n).length := by
  have h1 := prsTo_mono n (a := i + 1) (b := n) (by omega)
  rw [prsTo_succ, List.length_append, rowP_len] at h1
  rw [List.length_append, rowP_len]
  unfold prs
  omega

/-! ### Cells -/
theorem cellN_congr {x y x' y' : Int} (h : x % 4 = x' % 4) (h' : y % 4 = y' % 4) : cellN x y = cellN x' y' := by unfold cellN; rw [h, h']
theorem cellN_iff {x y x' y' : Int} : cellN x y = cellN x' y' ↔ x % 4 = x' % 4 ∧ y % 4 = y' % 4 := by
  unfold cellN
  constructor
  · intro h; omega
  · rintro ⟨h, h'⟩; rw [h, h']
theorem cellN_x (x y : Int) : ((cellN x y : Nat) : Int) % 4 = x % 4 := by rw [cellN_eq]; omega
theorem cellN_y (x y : Int) : ((cellN x y : Nat) : Int) / 4 = y % 4 := by rw [cellN_eq]; omega
theorem mul4 (k d : Int) : (k * (d % 4)) % 4 = (k * d) % 4 := by rw [Int.mul_emod, Int.emod_emod_of_dvd d (by decide), ← Int.mul_emod]
/-- The cell of the vector from i to j, a factor k. -/
def cellK (k : Int) (X Y : Nat → Int) (i j : Nat) : Nat := cellN (k * (X j - X i)) (k * (Y j - Y i))
theorem cellK_lt (k : Int) (X Y : Nat → Int) (i j : Nat) : cellK k X Y i j < 16 := cellN_lt _ _
theorem cellK_opp (k : Int) (X Y : Nat → Int) (i j : Nat) : cellK k X Y j i = oppN (cellK k X Y i j) := by
  unfold cellK oppN
  refine cellN_congr ?_ ?_
  · rw [cellN_x, show X i - X j = -(X j - X i) from by omega, Int.mul_neg]; omega
  · rw [cellN_y, show Y i - Y j = -(Y j - Y i) from by omega, Int.mul_neg]; omega
theorem cellK_back (k : Int) (X Y : Nat → Int) (i j : Nat) : cellN (-k * (X j - X i)) (-k * (Y j - Y i)) = cellK k X Y j i := by
  unfold cellK
  rw [show X i - X j = -(X j - X i) from by omega, show Y i - Y j = -(Y j - Y i) from by omega, Int.mul_neg, Int.mul_neg, Int.neg_mul, Int.neg_mul]

/-- The cells that an array of n antennas covers at a factor k. -/
def trB (k : Int) (X Y : Nat → Int) (n c : Nat) : Bool := anyN n fun i => anyN n fun j => decide (i ≠ j ∧ cellK k X Y i j = c)
theorem trB_iff {k : Int} {X Y : Nat → Int} {n c : Nat} : trB k X Y n c = true ↔ ∃ i j, i < n ∧ j < n ∧ i ≠ j ∧ cellK k X Y i j = c := by
  simp only [trB, anyN_iff, decide_eq_true_eq]
  exact ⟨fun ⟨i, hi, j, hj, h⟩ => ⟨i, j, hi, hj, h⟩, fun ⟨i, j, hi, hj, h⟩ => ⟨i, hi, j, hj, h⟩⟩
/-- The cells that a list of pairs covers. -/
def covL (k : Int) (X Y : Nat → Int) (l : List (Nat × Nat)) (c : Nat) : Bool := l.any fun p => decide (cellK k X Y p.1 p.2 = c) || decide (cellK k X Y p.2 p.1 = c)
theorem covL_nil (k : Int) (X Y : Nat → Int) (c : Nat) : covL k X Y [] c = false := rfl
theorem covL_snoc (k : Int) (X Y : Nat → Int) (l : List (Nat × Nat)) (i j c : Nat) : covL k X Y (l ++ [(i, j)]) c = if c = cellK k X Y j i then true else if c = cellK k X Y i j then true else covL k X Y l c := by
  simp only [covL, List.any_append, List.any_cons, List.any_nil, Bool.or_false]
  split
  · next h => simp [h]
  · next h =>
    split
    · next h' => simp [h']
    · next h' => simp [Ne.symm h, Ne.symm h']
theorem covL_prs (k : Int) (X Y : Nat → Int) (n c : Nat) : covL k X Y (prs n) c = trB k X Y n c := by
  refine bool_ext ?_
  simp only [covL, List.any_eq_true, Bool.or_eq_true, decide_eq_true_eq, trB_iff]
  constructor
  · rintro ⟨p, hp, h | h⟩
    · have := mem_prs.1 hp; exact ⟨p.1, p.2, by omega, by omega, by omega, h⟩
    · have := mem_prs.1 hp; exact ⟨p.2, p.1, by omega, by omega, by omega, h⟩
  · rintro ⟨i, j, hi, hj, hne, h⟩
    by_cases hlt : i < j
    · exact ⟨(i, j), mem_prs.2 ⟨hlt, hj⟩, .inl h⟩
    · exact ⟨(j, i), mem_prs.2 ⟨by show j < i; omega, hi⟩, .inr h⟩
/-- What the reference has set: all of the rows below i, and of row i those below j. -/
def spB (k : Int) (X Y : Nat → Int) (n i j c : Nat) : Bool := (anyN i fun a => anyN n fun b => decide (a ≠ b ∧ cellK k X Y a b = c)) || anyN j fun b => decide (i ≠ b ∧ cellK k X Y i b = c)
theorem spB_zero (k : Int) (X Y : Nat → Int) (n c : Nat) : spB k X Y n 0 0 c = false := rfl
theorem spB_next (k : Int) (X Y : Nat → Int) (n i c : Nat) : spB k X Y n i n c = spB k X Y n (i + 1) 0 c := by
  simp only [spB, anyN_succ, anyN_zero, Bool.or_false]
theorem spB_same (k : Int) (X Y : Nat → Int) (n i c : Nat) : spB k X Y n i (i + 1) c = spB k X Y n i i c := by
  simp [spB, anyN_succ]
theorem spB_step (k : Int) (X Y : Nat → Int) (n i j c : Nat) (h : i ≠ j) : spB k X Y n i (j + 1) c = if c = cellK k X Y i j then true else spB k X Y n i j c := by
  simp only [spB, anyN_succ]
  split
  · next e => simp [h, e]
  · next e => simp [Ne.symm e]
theorem spB_end (k : Int) (X Y : Nat → Int) (n c : Nat) : spB k X Y n n 0 c = trB k X Y n c := by
  simp only [spB, trB, anyN_zero, Bool.or_false]

/-! ### Laws -/
theorem trB_opp (k : Int) (X Y : Nat → Int) (n : Nat) {c : Nat} (hc : c < 16) : trB k X Y n (oppN c) = trB k X Y n c := by
  have oo : ∀ k : Fin 16, oppN (oppN k.val) = k.val := by decide
  have ooc := oo ⟨c, hc⟩
  simp only at ooc
  refine bool_ext ?_
  rw [trB_iff, trB_iff]
  constructor
  · rintro ⟨i, j, hi, hj, hne, h⟩
    exact ⟨j, i, hj, hi, hne.symm, by rw [cellK_opp, h, ooc]⟩
  · rintro ⟨i, j, hi, hj, hne, h⟩
    exact ⟨j, i, hj, hi, hne.symm, by rw [cellK_opp, h]⟩
theorem trB_side (k : Int) (X Y : Nat → Int) (n c : Nat) : trB (k + 4) X Y n c = trB k X Y n c := by
  have e : ∀ i j, cellK (k + 4) X Y i j = cellK k X Y i j := fun i j => cellN_congr (by rw [Int.add_mul]; omega) (by rw [Int.add_mul]; omega)
  simp only [trB, e]
theorem trB_neg (k : Int) (X Y : Nat → Int) (n c : Nat) : trB (4 - k) X Y n c = trB k X Y n c := by
  have e : ∀ i j, cellK (4 - k) X Y i j = cellK k X Y j i := fun i j => cellN_congr
    (by rw [Int.sub_mul, show X i - X j = -(X j - X i) from by omega, Int.mul_neg]; omega)
    (by rw [Int.sub_mul, show Y i - Y j = -(Y j - Y i) from by omega, Int.mul_neg]; omega)
  refine bool_ext ?_
  rw [trB_iff, trB_iff]
  constructor
  · rintro ⟨i, j, hi, hj, hne, h⟩
    exact ⟨j, i, hj, hi, hne.symm, by rw [← e]; exact h⟩
  · rintro ⟨i, j, hi, hj, hne, h⟩
    exact ⟨j, i, hj, hi, hne.symm, by rw [e]; exact h⟩
theorem trB_shift (k x y : Int) (X Y : Nat → Int) (n c : Nat) : trB k (fun i => X i + x) (fun i => Y i + y) n c = trB k X Y n c := by
  have e : ∀ i j, cellK k (fun i => X i + x) (fun i => Y i + y) i j = cellK k X Y i j := fun i j => by
    unfold cellK
    rw [show X j + x - (X i + x) = X j - X i from by omega, show Y j + y - (Y i + y) = Y j - Y i from by omega]
  simp only [trB, e]
theorem trB_turn2 (k : Int) (X Y : Nat → Int) (n c : Nat) : trB k (fun i => -X i) (fun i => -Y i) n c = trB k X Y n c := by
  have e : ∀ i j, cellK k (fun i => -X i) (fun i => -Y i) i j = cellK k X Y j i := fun i j => by
    unfold cellK
    rw [show -X j - -X i = X i - X j from by omega, show -Y j - -Y i = Y i - Y j from by omega]
  refine bool_ext ?_
  rw [trB_iff, trB_iff]
  constructor
  · rintro ⟨i, j, hi, hj, hne, h⟩
    exact ⟨j, i, hj, hi, hne.symm, by rw [← e]; exact h⟩
  · rintro ⟨i, j, hi, hj, hne, h⟩
    exact ⟨j, i, hj, hi, hne.symm, by rw [e]; exact h⟩
theorem trB_less (k : Int) (X Y : Nat → Int) {m n : Nat} (hm : m ≤ n) (c : Nat) (h : trB k X Y m c = true) : trB k X Y n c = true := by
  obtain ⟨i, j, hi, hj, r⟩ := trB_iff.1 h
  exact trB_iff.2 ⟨i, j, by omega, by omega, r⟩
theorem trB_lt (k : Int) (X Y : Nat → Int) {n c : Nat} (h : trB k X Y n c = true) : c < 16 := by
  obtain ⟨i, j, _, _, _, rfl⟩ := trB_iff.1 h
  exact cellK_lt _ _ _ _ _
/-- A cell times a factor. -/
def timesN (k : Int) (c : Nat) : Nat := cellN (k * ((c : Int) % 4)) (k * ((c : Int) / 4))
theorem timesN_lt (k : Int) (c : Nat) : timesN k c < 16 := cellN_lt _ _
theorem times_cellK (k m : Int) (X Y : Nat → Int) (i j : Nat) : timesN k (cellK m X Y i j) = cellK (k * m) X Y i j := by
  unfold timesN cellK
  rw [cellN_x, cellN_y]
  exact cellN_congr (by rw [mul4, Int.mul_assoc]) (by rw [mul4, Int.mul_assoc])
/-- The cells that are a factor's image of set cells below l. -/
def imgB (k : Int) (f : Nat → Bool) (l c : Nat) : Bool := anyN l fun a => f a && decide (timesN k a = c)
theorem imgB_zero (k : Int) (f : Nat → Bool) (c : Nat) : imgB k f 0 c = false := rfl
theorem imgB_yes {k : Int} {f : Nat → Bool} {l : Nat} (h : f l = true) (c : Nat) : imgB k f (l + 1) c = if c = timesN k l then true else imgB k f l c := by
  unfold imgB
  rw [anyN_succ, h]
  split
  · next e => simp [e]
  · next e => simp [Ne.symm e]
theorem imgB_no {k : Int} {f : Nat → Bool} {l : Nat} (h : f l = false) (c : Nat) : imgB k f (l + 1) c = imgB k f l c := by
  unfold imgB
  rw [anyN_succ, h]
  simp
theorem imgB_tr (k m : Int) (X Y : Nat → Int) (n c : Nat) : imgB k (trB m X Y n) 16 c = trB (k * m) X Y n c := by
  refine bool_ext ?_
  simp only [imgB, anyN_iff, Bool.and_eq_true, decide_eq_true_eq]
  constructor
  · rintro ⟨a, ha, h, e⟩
    obtain ⟨i, j, hi, hj, hne, rfl⟩ := trB_iff.1 h
    exact trB_iff.2 ⟨i, j, hi, hj, hne, by rw [← e, times_cellK]⟩
  · intro h
    obtain ⟨i, j, hi, hj, hne, rfl⟩ := trB_iff.1 h
    exact ⟨cellK m X Y i j, cellK_lt _ _ _ _ _, trB_iff.2 ⟨i, j, hi, hj, hne, rfl⟩, times_cellK _ _ _ _ _ _⟩
/-- A cell turned by a quarter, and back. -/
def rotN (c : Nat) : Nat := cellN (-((c : Int) / 4)) ((c : Int) % 4)
def tornN (c : Nat) : Nat := cellN ((c : Int) / 4) (-((c : Int) % 4))
theorem rotN_lt (c : Nat) : rotN c < 16 := cellN_lt _ _
theorem tornN_lt (c : Nat) : tornN c < 16 := cellN_lt _ _
theorem rot_torn : ∀ c : Fin 16, rotN (tornN c.val) = c.val := by decide
theorem torn_rot : ∀ c : Fin 16, tornN (rotN c.val) = c.val := by decide
theorem rot_cellK (k : Int) (X Y : Nat → Int) (i j : Nat) : rotN (cellK k X Y i j) = cellK k (fun i => -Y i) X i j := by
  unfold rotN cellK
  rw [cellN_x, cellN_y]
  refine cellN_congr ?_ (by omega)
  show (-(k * (Y j - Y i) % 4)) % 4 = (k * (-Y j - -Y i)) % 4
  rw [show -Y j - -Y i = -(Y j - Y i) from by omega, Int.mul_neg]
  omega
theorem trB_turn (k : Int) (X Y : Nat → Int) (n : Nat) {c : Nat} (hc : c < 16) : trB k (fun i => -Y i) X n c = trB k X Y n (tornN c) := by
  refine bool_ext ?_
  rw [trB_iff, trB_iff]
  constructor
  · rintro ⟨i, j, hi, hj, hne, h⟩
    refine ⟨i, j, hi, hj, hne, ?_⟩
    rw [← rot_cellK] at h
    rw [← h]
    exact (torn_rot ⟨_, cellK_lt k X Y i j⟩).symm
  · rintro ⟨i, j, hi, hj, hne, h⟩
    refine ⟨i, j, hi, hj, hne, ?_⟩
    rw [← rot_cellK, h]
    exact rot_torn ⟨c, hc⟩
end Go.Proofs.Ytbnfnloaomjjbaa
