/-
  Lists of Gaussian integers: made of integers, and their real parts.
-/
import Derived.Test.YtbnfnloaomjjbaaGauss
import Derived.Test.YtbnfnloaomjjbaaInts
import Derived.Test.YtbnfnloaomjjbaaApp
namespace Go.Proofs.Ytbnfnloaomjjbaa
open Go.RowKit

theorem info_gauss : (Try.prog.info? 33).map (fun i => (i.zero, i.size, i.bytes)) = some (some (.agg #[.int .i64 0, .int .i64 0]), 2, 16) := by kernel_rfl

/-- The cells of a list of pairs. -/
def flat (F G : Nat → Int) (j : Nat) : Value := if j % 2 = 0 then .int .i64 (F (j / 2)) else .int .i64 (G (j / 2))
theorem flat_even (F G : Nat → Int) (k : Nat) : flat F G (k * 2) = .int .i64 (F k) := by
  unfold flat; rw [if_pos (by omega), show k * 2 / 2 = k from by omega]
theorem flat_odd (F G : Nat → Int) (k : Nat) : flat F G (k * 2 + 1) = .int .i64 (G k) := by
  unfold flat; rw [if_neg (by omega), show (k * 2 + 1) / 2 = k from by omega]
theorem flat_congr {F G F' G' : Nat → Int} {n : Nat} (h1 : ∀ k, k < n → F k = F' k) (h2 : ∀ k, k < n → G k = G' k) : ∀ j, j < n * 2 → flat F G j = flat F' G' j := by
  intro j hj
  unfold flat
  split
  · rw [h1 _ (by omega)]
  · rw [h2 _ (by omega)]

/-- The call's own list of pairs. -/
def Own2 (w : World) (B : Nat) (t : TypeId) (v : Value) (n : Nat) (h : Nat → Value) : Prop := w.ownsRow B t 2 v n ((List.range (n * 2)).map h)
section
variable {w w' : World} {B n : Nat} {t : TypeId} {v : Value} {f g : Nat → Value}
theorem Own2.made (h : Own2 w B t v n f) : ∃ A c, v = .slice A n c ∧ Made w B t A (n * 2) f := by
  rcases h.2 with ⟨rfl, rfl⟩ | ⟨g, cap, cur, rfl, hg, hh, _, _, _, hx⟩
  · exact ⟨none, 0, rfl, Made.nil _ _ _ _ _⟩
  · refine ⟨_, _, rfl, fun _ => ⟨g, rfl, hg, cur, hh, fun i hi => ?_⟩⟩
    have h1 : (cur.toList.take (n * 2))[i]? = some (f i) := by rw [hx]; simp [hi]
    rw [List.getElem?_take, if_pos (by omega)] at h1
    simpa using h1
theorem Own2.nil (w : World) (B : Nat) (t : TypeId) (f : Nat → Value) : Own2 w B t (.slice none 0 0) 0 f := World.ownsRow_nil _ _ _ _
theorem Own2.alloc (h : Own2 w B t v n f) (o : Obj) : Own2 (w.alloc o) B t v n f := World.ownsRow.alloc h o
theorem Own2.from_ (h : Own2 w B t v n f) : ∀ k, v.ownBlock = some k → B ≤ k := fun k hk => (World.ownsRow.lt h k hk).1
end

theorem wpList_app2 {P : Program} {ops : Array Oper} {rest : List Oper} {o : Oper} {a : Act} {Q : Exit → Act → World → Prop} (W : World) (x0 x1 : Value) (hgd : o.guard = none) (s x : Operand) (t : TypeId)
    (ho : o.op = .call { callee := .builtin .append, args := #[s, x], argTypes := #[t, t] })
    (base : Nat) (e : TypeId) (z : Value) (bytes : Nat) (ht : P.underlying t = some (.slice e)) (hinfo : (P.info? e).map (fun i => (i.zero, i.size, i.bytes)) = some (some z, 2, bytes)) (hzs : z.cells.size = 2) (hby : bytes ≤ 64)
    (v : Value) (n : Nat) (f : Nat → Value) (hs : a.eval s = v) (hown : Own2 W base e v n f) (hx : a.eval x = .slice (some ⟨W.heap.size, 0, none⟩) 1 1) (hf0 : f (n * 2) = x0) (hf1 : f (n * 2 + 1) = x1)
    (h0 : x0.oneCell' = true) (h1 : x1.oneCell' = true) (hn : n ≤ 1000000000) (hbase : base ≤ W.heap.size)
    (h : ∀ v' w', Own2 w' base e v' (n + 1) f → Below base W w' → wpList P ops Q rest (a.put o.dst v') w') : wpList P ops Q (o :: rest) a (W.alloc (.cells #[x0, x1] e)) := by
  obtain ⟨i, hi, hz0, hz1, hz2⟩ := info_parts hinfo
  refine wpList_append_own _ hgd s x t ho base e i z 2 bytes ht hi hz0 hz1 hz2 hzs (by decide) v n _ hs (hown.alloc _) ⟨W.heap.size, 0, none⟩ 1 1 [x0, x1] hx rfl ?_ (by simp [h0, h1])
    (by unfold maxLen; omega) ?_ (by simp; omega) ?_
  · intro j u hj
    match j, hj with
    | 0, hj => simp at hj; subst hj; simp [Addr.add]
    | 1, hj => simp at hj; subst hj; simp [Addr.add]
  · have : (n + 1) * bytes ≤ 1000000001 * 64 := Nat.mul_le_mul (by omega) hby
    omega
  · intro v' w1 hown' hgrow _
    have hg : W.grownBy w1 v.ownBlock := by
      have hsz := hgrow.size
      simp at hsz
      refine ⟨hgrow.os, hgrow.tape, hgrow.output, by omega, fun k hk hne => (hgrow.block k (by simp; omega) hne).trans (Below.heap_alloc W _ k hk)⟩
    refine h v' w1 ?_ ((Below.refl _ _).grown hg hbase hown.from_)
    unfold Own2
    rw [show (n + 1) * 2 = n * 2 + 1 + 1 from by omega, List.range_succ, List.range_succ, List.map_append, List.map_append]
    simpa [hf0, hf1] using hown'

set_option maxHeartbeats 1000000 in
theorem c_realGrid (A : Option Addr) (n c : Nat) (f : Nat → Int) (w : World) (hn : n ≤ 1048576) (h : Rd w w.heap.size A n (fun k => .int .i64 (f k))) :
    Calls Try.prog 36 #[.slice A n c] w fun e w' => ∃ A' c', e = .returned (.slice A' n c') ∧ Below w.heap.size w w' ∧ Made w' w.heap.size 33 A' (n * 2) (flat f (fun _ => 0)) := by
  go_enter Try.func36, Try.ntmps36
  go_wp2
  go_loopw [3, 8] (fun v i wr => ∃ k : Nat, k ≤ n ∧ i = .int .i64 k ∧ Below w.heap.size w wr ∧ Own2 wr w.heap.size 33 v k (flat f (fun _ => 0))) (fun _ i _ => n - (intOf i).toNat)
  case atStart => exact ⟨0, Nat.zero_le _, rfl, Below.refl _ _, Own2.nil _ _ _ _⟩
  case round =>
    obtain ⟨k, hk, rfl, hb, hr⟩ := hrel
    by_cases hlt : k < n
    · obtain ⟨ad, rfl, hab, hc⟩ := h.at_ hlt
      have h1 : wr.cell? (ad.add k) = some (.int .i64 (f k)) := (hb.cell (by rw [block_add]; exact hab)).trans (hc k hlt)
      have hsz := hb.size
      clear hc h
      go_wp2_with (at_builtin; refine wpList_app2 wr (.int .i64 (f k)) (.int .i64 0) rfl _ _ 29 rfl w.heap.size 33 (.agg #[.int .i64 0, .int .i64 0]) 16 Try.underlying29 info_gauss rfl (by omega) _ k _ (by rfl) (by exact hr) (by rfl) (flat_even _ _ _) (flat_odd _ _ _) rfl rfl (by omega) hsz ?_; intro v' w1 hown' hb1)
      go_roundw
      case rel => exact ⟨k + 1, by omega, by go_num, hb.trans hb1, hown'⟩
      case measure => simp [intOf]; omega
    · go_wp2
      obtain rfl : k = n := by omega
      obtain ⟨A1, c1, rfl, hm⟩ := hr.made
      go_ret
      exact ⟨_, _, rfl, hb, hm⟩
set_option maxHeartbeats 1000000 in
theorem c_realParts (g n c : Nat) (F G : Nat → Int) (w : World) (hn : n ≤ 1048576) (h : Row w g 33 (n * 2) (flat F G)) :
    Calls Try.prog 39 #[.slice (some ⟨g, 0, none⟩) n c] w (Ret1 3 w n (fun k => .int .i64 (F k))) := by
  have hg := h.lt
  go_enter Try.func39, Try.ntmps39
  go_wp2
  go_loopw [3, 5, 8] (fun v b i wr => ∃ k : Nat, k ≤ n ∧ i = .int .i64 k ∧ Below w.heap.size w wr ∧ Own wr w.heap.size 3 v k (fun k => .int .i64 (F k))) (fun _ _ i _ => n - (intOf i).toNat)
  case atStart => exact ⟨0, Nat.zero_le _, rfl, Below.refl _ _, Own.nil _ _ _ _⟩
  case round =>
    obtain ⟨k, hk, rfl, hb, hr⟩ := hrel
    by_cases hlt : k < n
    · have hR := h.below hb hg
      have h1 : wr.cell? ⟨g, k * 2, none⟩ = some (.int .i64 (F k)) := by rw [hR.cell (by omega), flat_even]
      have h2 : wr.cell? ⟨g, k * 2 + 1, none⟩ = some (.int .i64 (G k)) := by rw [hR.cell (by omega), flat_odd]
      have hsz := hb.size
      clear hR
      go_wp2_with (at_builtin; refine wpList_app1 (wr.alloc (.cells #[.int .i64 (F k), .int .i64 (G k)] 33)) (.int .i64 (F k)) rfl _ _ 25 rfl w.heap.size 3 (.int .i64 0) 8 Try.underlying25 info_int rfl (by omega) _ k _ (by rfl) (by exact hr.alloc _) (by rw [World.size_alloc]; rfl) rfl rfl (by omega) (by simp; omega) ?_; intro v' w1 hown' hb1 _)
      go_roundw
      case rel => exact ⟨k + 1, by omega, by go_num, (hb.alloc hsz _).trans hb1, hown'⟩
      case measure => simp [intOf]; omega
    · go_wp2
      obtain rfl : k = n := by omega
      obtain ⟨A1, c1, rfl, hm⟩ := hr.made
      go_ret
      exact ⟨_, _, rfl, hb, hm⟩
end Go.Proofs.Ytbnfnloaomjjbaa
