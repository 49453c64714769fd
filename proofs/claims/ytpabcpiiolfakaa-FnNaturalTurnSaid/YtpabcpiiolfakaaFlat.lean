/-
  Lists of pairs of integers: their cells, lists of the call's own, appending one pair. No program but for the element's type.
-/
import Derived.Test.YtpabcpiiolfakaaInts
import Derived.Test.YtpabcpiiolfakaaApp
import Derived.Test.YtpabcpiiolfakaaTrPlain
namespace Go.Proofs.Ytpabcpiiolfakaa
open Go.RowKit

theorem info_ant : (Try.prog.info? 62).map (fun i => (i.zero, i.size, i.bytes)) = some (some (.agg #[.int .i64 0, .int .i64 0]), 2, 16) := by kernel_rfl

/-- The cells of a list of pairs. -/
def flat (F G : Nat → Int) (j : Nat) : Value := if j % 2 = 0 then .int .i64 (F (j / 2)) else .int .i64 (G (j / 2))
theorem flat_even (F G : Nat → Int) (k : Nat) : flat F G (k * 2) = .int .i64 (F k) := by
  unfold flat; rw [if_pos (by omega), show k * 2 / 2 = k from by omega]
theorem flat_odd (F G : Nat → Int) (k : Nat) : flat F G (k * 2 + 1) = .int .i64 (G k) := by
  unfold flat; rw [if_neg (by omega), show (k * 2 + 1) / 2 = k from by omega]
theorem flat_congr {F G F' G' : Nat → Int} {n : Nat} (h1 : ∀ k, k < n → F k = F' k) (h2 : ∀ k, k < n → G k = G' k) : ∀ j, j < n * 2 → flat F G j = flat F' G' j := by
  intro j hj
  unfold flat
  split
  · rw [h1 _ (by omega)]
  · rw [h2 _ (by omega)]

/-- The call's own list of pairs. -/
def Own2 (w : World) (B : Nat) (t : TypeId) (v : Value) (n : Nat) (h : Nat → Value) : Prop := w.ownsRow B t 2 v n ((List.range (n * 2)).map h)
section
variable {w w' : World} {B n : Nat} {t : TypeId} {v : Value} {f g : Nat → Value}
theorem Own2.made (h : Own2 w B t v n f) : ∃ A c, v = .slice A n c ∧ Made w B t A (n * 2) f := by
  rcases h.2 with ⟨rfl, rfl⟩ | ⟨g, cap, cur, rfl, hg, hh, _, _, _, hx⟩
  · exact ⟨none, 0, rfl, Made.nil _ _ _ _ _⟩
  · refine ⟨_, _, rfl, fun _ => ⟨g, rfl, hg, cur, hh, fun i hi => ?_⟩⟩
    have h1 : (cur.toList.take (n * 2))[i]? = some (f i) := by rw [hx]; simp [hi]
    rw [List.getElem?_take, if_pos (by omega)] at h1
    simpa using h1
theorem Own2.nil (w : World) (B : Nat) (t : TypeId) (f : Nat → Value) : Own2 w B t (.slice none 0 0) 0 f := World.ownsRow_nil _ _ _ _
theorem Own2.alloc (h : Own2 w B t v n f) (o : Obj) : Own2 (w.alloc o) B t v n f := World.ownsRow.alloc h o
theorem Own2.from_ (h : Own2 w B t v n f) : ∀ k, v.ownBlock = some k → B ≤ k := fun k hk => (World.ownsRow.lt h k hk).1
end

theorem wpList_app2 {P : Program} {ops : Array Oper} {rest : List Oper} {o : Oper} {a : Act} {Q : Exit → Act → World → Prop} (W : World) (x0 x1 : Value) (hgd : o.guard = none) (s x : Operand) (t : TypeId)
    (ho : o.op = .call { callee := .builtin .append, args := #[s, x], argTypes := #[t, t] })
    (base : Nat) (e : TypeId) (z : Value) (bytes : Nat) (ht : P.underlying t = some (.slice e)) (hinfo : (P.info? e).map (fun i => (i.zero, i.size, i.bytes)) = some (some z, 2, bytes)) (hzs : z.cells.size = 2) (hby : bytes ≤ 64)
    (v : Value) (n : Nat) (f : Nat → Value) (hs : a.eval s = v) (hown : Own2 W base e v n f) (hx : a.eval x = .slice (some ⟨W.heap.size, 0, none⟩) 1 1) (hf0 : f (n * 2) = x0) (hf1 : f (n * 2 + 1) = x1)
    (h0 : x0.oneCell' = true) (h1 : x1.oneCell' = true) (hn : n ≤ 1000000000) (hbase : base ≤ W.heap.size)
    (h : ∀ v' w', Own2 w' base e v' (n + 1) f → Below base W w' → wpList P ops Q rest (a.put o.dst v') w') : wpList P ops Q (o :: rest) a (W.alloc (.cells #[x0, x1] e)) := by
  obtain ⟨i, hi, hz0, hz1, hz2⟩ := info_parts hinfo
  refine wpList_append_own _ hgd s x t ho base e i z 2 bytes ht hi hz0 hz1 hz2 hzs (by decide) v n _ hs (hown.alloc _) ⟨W.heap.size, 0, none⟩ 1 1 [x0, x1] hx rfl ?_ (by simp [h0, h1])
    (by unfold maxLen; omega) ?_ (by simp; omega) ?_
  · intro j u hj
    match j, hj with
    | 0, hj => simp at hj; subst hj; simp [Addr.add]
    | 1, hj => simp at hj; subst hj; simp [Addr.add]
  · have : (n + 1) * bytes ≤ 1000000001 * 64 := Nat.mul_le_mul (by omega) hby
    omega
  · intro v' w1 hown' hgrow _
    have hg : W.grownBy w1 v.ownBlock := by
      have hsz := hgrow.size
      simp at hsz
      refine ⟨hgrow.os, hgrow.tape, hgrow.output, by omega, fun k hk hne => (hgrow.block k (by simp; omega) hne).trans (Below.heap_alloc W _ k hk)⟩
    refine h v' w1 ?_ ((Below.refl _ _).grown hg hbase hown.from_)
    unfold Own2
    rw [show (n + 1) * 2 = n * 2 + 1 + 1 from by omega, List.range_succ, List.range_succ, List.map_append, List.map_append]
    simpa [hf0, hf1] using hown'


/-- A list of antennas reads as X, Y. -/
def RdA (w : World) (B : Nat) (A : Option Addr) (n : Nat) (X Y : Nat → Int) : Prop := Rd w B A (n * 2) (flat X Y)
section
variable {w w' : World} {B B' n : Nat} {A : Option Addr} {X Y : Nat → Int}
theorem add_lit (b o k : Nat) : (⟨b, o, none⟩ : Addr).add k = ⟨b, o + k, none⟩ := by unfold Addr.add; split <;> simp_all
theorem RdA.step (h : RdA w w.heap.size A n X Y) (hb : Below w.heap.size w w') : RdA w' w'.heap.size A n X Y := Rd.step h hb
theorem RdA.below (h : RdA w B A n X Y) (hb : Below B w w') : RdA w' B A n X Y := Rd.below h hb
theorem RdA.more (h : RdA w B A n X Y) (hB : B ≤ B') : RdA w B' A n X Y := Rd.more h hB
theorem RdA.drewN (h : RdA w B A n X Y) (k : Nat) : RdA (w.drewN k) B A n X Y := h
theorem RdA.less (h : RdA w B A n X Y) {m : Nat} (hm : m ≤ n) : RdA w B A m X Y := fun hn => by
  obtain ⟨ad, e, hb, hc⟩ := h (by omega)
  exact ⟨ad, e, hb, fun k hk => hc k (by omega)⟩
theorem add_one (a : Addr) (k : Nat) : a.add (k + 1) = ⟨(a.add k).block, (a.add k).off + 1, none⟩ := by
  cases k with
  | zero => simp [Addr.add]
  | succ k => simp [Addr.add]; omega
/-- The two cells of a pair, in the walk's own form. -/
theorem RdA.at_ {k : Nat} (h : RdA w B A n X Y) (hk : k < n) : ∃ ad : Addr, A = some ad ∧ ad.block < B ∧ ∀ j, j < n → w.cell? (ad.add (j * 2)) = some (.int .i64 (X j)) ∧ w.cell? ⟨(ad.add (j * 2)).block, (ad.add (j * 2)).off + 1, none⟩ = some (.int .i64 (Y j)) := by
  obtain ⟨ad, e, hb, hc⟩ := Rd.at_ (k := k) h (by omega)
  exact ⟨ad, e, hb, fun j hj => ⟨by rw [hc _ (by omega), flat_even], by rw [← add_one, hc _ (by omega), flat_odd]⟩⟩
theorem RdA.congr {X' Y' : Nat → Int} (h : RdA w B A n X Y) (h1 : ∀ k, k < n → X k = X' k) (h2 : ∀ k, k < n → Y k = Y' k) : RdA w B A n X' Y' := Rd.congr h (flat_congr h1 h2)
end
end Go.Proofs.Ytpabcpiiolfakaa
