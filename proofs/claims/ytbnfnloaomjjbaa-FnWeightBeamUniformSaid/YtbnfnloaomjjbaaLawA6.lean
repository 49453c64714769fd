/-
  The laws on beams of drawn weights and coverages: sums, greatest number, transforms, uniform weights.
-/
import Derived.Test.YtbnfnloaomjjbaaSky
import Derived.Test.YtbnfnloaomjjbaaDrawC
import Derived.Test.YtbnfnloaomjjbaaDrawW
import Derived.WalkLawsBesides
namespace Go.Proofs.Ytbnfnloaomjjbaa
open Go.RowKit

theorem add_at (b off k : Nat) : (⟨b, off, none⟩ : Addr).add k = ⟨b, off + k, none⟩ := by unfold Addr.add; split <;> simp_all
theorem DrawnI.open_ {M : Int} {B : Nat} {v : Value} {w : World} (h : DrawnI M B v w) : ∃ (A : Option Addr) (n c : Nat) (G : Nat → Int), v = .slice A n c ∧ n ≤ 16 ∧ Rd w w.heap.size A n (fun k => .int .i64 (G k)) := by
  obtain ⟨b, off, n, c, F, _, rfl, hn, _, hR, _⟩ := h
  exact ⟨_, n, c, fun k => F (off + k), rfl, hn, fun _ => ⟨_, rfl, hR.lt, fun k hk => by rw [add_at]; exact hR.cell (by omega)⟩⟩
theorem DrawnB.open_ {B : Nat} {v : Value} {w : World} (h : DrawnB B v w) : ∃ (A : Option Addr) (n c : Nat) (G : Nat → Bool), v = .slice A n c ∧ n ≤ 16 ∧ Rd w w.heap.size A n (fun k => .bool (G k)) := by
  obtain ⟨b, off, n, c, F, _, rfl, hn, _, hR⟩ := h
  exact ⟨_, n, c, fun k => F (off + k), rfl, hn, fun _ => ⟨_, rfl, hR.lt, fun k hk => by rw [add_at]; exact hR.cell (by omega)⟩⟩
theorem beam_small {f : Nat → Int} (h : ∀ k, k < 16 → 0 ≤ f k ∧ f k ≤ 100) : ∀ k, k < 16 → -100000 ≤ beam f k ∧ beam f k ≤ 100000 := fun k _ => by
  have h1 := beam_abs (fun k hk => (h k hk).1) k
  have h2 := sumN_bd (f := f) (M := 100) (n := 16) h 16 (by omega)
  omega

end Go.Proofs.Ytbnfnloaomjjbaa
