/-
  The reader of a code: what a pick answers, and that it writes its own count alone.
-/
import Derived.Test.YtpanefjjghlhiaaSmall
import Derived.Deep.QuietTactic
import Derived.BigQuiet
import Derived.WalkLawsBesides
namespace Go.Proofs.Ytpanefjjghlhiaa
open Go.RowKit

/-- The bytes of a code. -/
def Code8 (w : World) (B : Nat) (A : Option Addr) (n : Nat) (f : Nat → Int) : Prop := Rd w B A n (fun k => .int .u8 (f k)) ∧ ∀ i, 0 ≤ f i ∧ f i ≤ 255

/-- Block g is a reader that has given p numbers. -/
def Rdr (w : World) (g p : Nat) : Prop :=
  ∃ A n c f, w.heap[g]? = some (.cells #[.slice A n c, .int .i64 (p : Nat)] 46 (0, 0)) ∧ n ≤ 2000 ∧ Code8 w g A n f

/-- What a pick answers. -/
def Picks (w : World) (g p n : Nat) (e : Ending) (w' : World) : Prop :=
  ∃ x : Nat, x < n ∧ e = .returned (.int .i64 (x : Nat)) ∧ Rdr w' g (p + 1) ∧ Only w w' (some ⟨g, 0, none⟩)

theorem rdr_next {w : World} {g p n c : Nat} {A : Option Addr} {f : Nat → Int} (h : w.heap[g]? = some (.cells #[.slice A n c, .int .i64 (p : Nat)] 46 (0, 0))) (hn : n ≤ 2000) (hc : Code8 w g A n f) (k : Nat) :
    Rdr ((w.setCell ⟨g, 1, none⟩ (.int .i64 (p + 1 : Nat))).drewN k) g (p + 1) ∧ Only w ((w.setCell ⟨g, 1, none⟩ (.int .i64 (p + 1 : Nat))).drewN k) (some ⟨g, 0, none⟩) := by
  refine ⟨⟨A, n, c, f, ?_, hn, ?_, hc.2⟩, ((Only.refl w (some ⟨g, 0, none⟩)).set (p := ⟨g, 1, none⟩) (ad := ⟨g, 0, none⟩) rfl rfl _).drewN k⟩
  · show (w.setCell ⟨g, 1, none⟩ (.int .i64 (p + 1 : Nat))).heap[g]? = _
    simp [World.setCell, Array.getElem?_modify, h]
  · exact hc.1.below (w' := (w.setCell ⟨g, 1, none⟩ (.int .i64 (p + 1 : Nat))).drewN k) (below_drewN ((Below.refl _ _).setCell (p := ⟨g, 1, none⟩) (Nat.le_refl _) _) k)

theorem xor_i64 (a b : Nat) (ha : a < 1000000000000) (hb : b < 1000000000000) : ∃ x : Nat, bits .xor .i64 (a : Int) (b : Int) = (x : Int) := by
  refine ⟨a ^^^ b, ?_⟩
  have hx : a ^^^ b < 2 ^ 63 := Nat.xor_lt_two_pow (by omega) (by omega)
  have ea : ∀ c : Nat, c < 1000000000000 → (BitVec.ofInt 64 (c : Int)).toNat = c := fun c hc => by
    rw [BitVec.ofInt_natCast, BitVec.toNat_ofNat]; exact Nat.mod_eq_of_lt (by omega)
  show IntKind.i64.wrap ((BitVec.ofInt 64 (a : Int) ^^^ BitVec.ofInt 64 (b : Int)).toNat : Int) = _
  rw [BitVec.toNat_xor, ea a ha, ea b hb]
  exact IntWalk.i64_in _ (by omega)

theorem pick_end (a b : Int) (p m n : Nat) (a1 : 0 ≤ a) (a2 : a ≤ 255) (b1 : 0 ≤ b) (b2 : b ≤ 255) (hp : p ≤ 1000000) (hn : 1 ≤ n) :
    ∃ x : Nat, x < n ∧ (bits .xor .i64 (wrap64 (a * 131 + b * 1117 + (p : Int) * 29 + wrap64 (wrap64 ((p : Int) / (m : Int)) * 53))) (wrap64 ((wrap64 (a * 131 + b * 1117 + (p : Int) * 29 + wrap64 (wrap64 ((p : Int) / (m : Int)) * 53))).tdiv 64))).tmod (n : Int) = (x : Int) := by
  have hq : (p : Int) / (m : Int) = ((p / m : Nat) : Int) := by simp
  have hq2 : p / m ≤ p := Nat.div_le_self _ _
  rw [hq]
  generalize p / m = q at hq2
  obtain ⟨a', rfl⟩ := Int.eq_ofNat_of_zero_le a1
  obtain ⟨b', rfl⟩ := Int.eq_ofNat_of_zero_le b1
  have e1 : wrap64 ((q : Nat) : Int) = (q : Int) := IntWalk.wrap64_in _ ⟨by omega, by omega⟩
  rw [e1]
  have e2 : wrap64 ((q : Int) * 53) = (q : Int) * 53 := IntWalk.wrap64_in _ ⟨by omega, by omega⟩
  rw [e2]
  have e3 : wrap64 ((a' : Int) * 131 + (b' : Int) * 1117 + (p : Int) * 29 + (q : Int) * 53) = ((a' * 131 + b' * 1117 + p * 29 + q * 53 : Nat) : Int) := by
    rw [IntWalk.wrap64_in _ ⟨by omega, by omega⟩]; omega
  rw [e3]
  have hS : a' * 131 + b' * 1117 + p * 29 + q * 53 < 1000000000000 := by omega
  generalize a' * 131 + b' * 1117 + p * 29 + q * 53 = S at hS
  have e4 : wrap64 (((S : Nat) : Int).tdiv 64) = ((S / 64 : Nat) : Int) := by
    rw [Int.tdiv_eq_ediv_of_nonneg (by omega), IntWalk.wrap64_in _ ⟨by omega, by omega⟩]; omega
  rw [e4]
  obtain ⟨y, hy⟩ := xor_i64 S (S / 64) hS (by omega)
  rw [hy]
  refine ⟨y % n, Nat.mod_lt _ (by omega), ?_⟩
  rw [Int.tmod_eq_emod_of_nonneg (by omega)]
  simp

set_option maxHeartbeats 2000000 in
theorem c_pick (g p n : Nat) (w : World) (h : Rdr w g p) (hp : p ≤ 1000000) (hn1 : 1 ≤ n) (hn2 : n ≤ 1000000) :
    Calls Try.prog 15 #[.pointer (some ⟨g, 0, none⟩), .int .i64 (n : Nat)] w (Picks w g p n) := by
  obtain ⟨A, m, c, f, hh, hm, hc⟩ := h
  have c0 : w.cell? ⟨g, 0, none⟩ = some (.slice A m c) := by simp [World.cell?, hh]
  have c1 : w.cell? ⟨g, 1, none⟩ = some (.int .i64 (p : Nat)) := by simp [World.cell?, hh]
  have fz : w.frozen? ⟨g, 1, none⟩ = false := by simp [World.frozen?, hh]
  have N := rdr_next hh hm hc
  have HN := Lib.hid N
  clear N hh
  by_cases hm0 : m = 0
  · subst hm0
    go_enter Try.func15, Try.ntmps15
    go_wp2
    go_ret
    exact ⟨0, by omega, rfl, HN.out 0⟩
  · by_cases hlt : p < m
    · obtain ⟨ad, rfl, hab, hcc⟩ := hc.1.at_ hlt
      have hb1 := (hc.2 p).1
      have hb2 := (hc.2 p).2
      have h1 : ∀ v, (w.setCell ⟨g, 1, none⟩ v).cell? (ad.add p) = some (.int .u8 (f p)) := fun v => by
        rw [World.cell?_setCell_other _ _ _ _ (fun e => by have := congrArg Addr.block e; rw [block_add] at this; simp at this; omega)]
        exact hcc p hlt
      have hz : ((m : Int) == 0) = false := by simpa using (by omega : (m : Int) ≠ 0)
      clear hc hcc
      go_enter Try.func15, Try.ntmps15
      go_wp2
      go_ret
      exact ⟨(f p % n).toNat, by have := Int.emod_nonneg (f p) (b := n) (by omega); have := Int.emod_lt_of_pos (f p) (b := n) (by omega); omega, ret_int (by have := Int.emod_nonneg (f p) (b := n) (by omega); omega), HN.out 0⟩
    · obtain ⟨ad, rfl, hab, hcc⟩ := hc.1.at_ (k := 0) (by omega)
      have hz : ((m : Int) == 0) = false := by simpa using (by omega : (m : Int) ≠ 0)
      obtain ⟨q1, e1, l1⟩ : ∃ q : Nat, (p : Int).tmod m = (q : Int) ∧ q < m := ⟨p % m, by rw [Int.tmod_eq_emod_of_nonneg (by omega)]; simp, Nat.mod_lt _ (by omega)⟩
      have h1 : ∀ v, (w.setCell ⟨g, 1, none⟩ v).cell? (ad.add q1) = some (.int .u8 (f q1)) := fun v => by
        rw [World.cell?_setCell_other _ _ _ _ (fun e => by have := congrArg Addr.block e; rw [block_add] at this; simp at this; omega)]
        exact hcc _ l1
      obtain ⟨y2, e2, l2⟩ : ∃ q : Nat, IntKind.i64.wrap ((p : Int) * 7) = (q : Int) ∧ q ≤ 7000000 := ⟨p * 7, by rw [IntWalk.i64_in _ (by omega)]; omega, by omega⟩
      obtain ⟨y3, e3, l3⟩ : ∃ q : Nat, IntKind.i64.wrap ((y2 : Int) + 3) = (q : Int) ∧ q ≤ 7000003 := ⟨y2 + 3, by rw [IntWalk.i64_in _ (by omega)]; omega, by omega⟩
      obtain ⟨q2, e4, l4⟩ : ∃ q : Nat, (y3 : Int).tmod m = (q : Int) ∧ q < m := ⟨y3 % m, by rw [Int.tmod_eq_emod_of_nonneg (by omega)]; simp, Nat.mod_lt _ (by omega)⟩
      have h2 : ∀ v, (w.setCell ⟨g, 1, none⟩ v).cell? (ad.add q2) = some (.int .u8 (f q2)) := fun v => by
        rw [World.cell?_setCell_other _ _ _ _ (fun e => by have := congrArg Addr.block e; rw [block_add] at this; simp at this; omega)]
        exact hcc _ l4
      have hf1 := (hc.2 q1).1
      have hf2 := (hc.2 q1).2
      have hf3 := (hc.2 q2).1
      have hf4 := (hc.2 q2).2
      have i1 : (q1 : Int) < (m : Int) := by omega
      have i2 : (q2 : Int) < (m : Int) := by omega
      clear hc hcc
      go_enter Try.func15, Try.ntmps15
      go_wp2
      go_quiet (fail)
      go_wp2
      obtain ⟨x, hx, ex⟩ := pick_end (f q1) (f q2) p m n hf1 hf2 hf3 hf4 hp hn1
      go_ret
      exact ⟨x, hx, ret_int ex, HN.out nq⟩
end Go.Proofs.Ytpanefjjghlhiaa
