/-
  Opening a reader.
-/
import Derived.Test.YtpanefjjghlhiaaPick
namespace Go.Proofs.Ytpanefjjghlhiaa
open Go.RowKit

/-- A new reader. -/
def Opens (w : World) (e : Ending) (w' : World) : Prop :=
  ∃ g, w.heap.size ≤ g ∧ e = .returned (.pointer (some ⟨g, 0, none⟩)) ∧ Rdr w' g 0 ∧ Below w.heap.size w w'

theorem rdr_new {w : World} {A : Option Addr} {n c : Nat} {f : Nat → Int} (hn : n ≤ 2000) (h : Code8 w w.heap.size A n f) :
    Rdr (w.alloc (.cells #[.slice A n c, .int .i64 0] 46)) w.heap.size 0 :=
  ⟨A, n, c, f, heap_alloc_new w _, hn, h.1.below ((Below.refl _ _).alloc (Nat.le_refl _) _), h.2⟩

theorem c_l6Open (A : Option Addr) (n c : Nat) (f : Nat → Int) (w : World) (hn : n ≤ 1048576) (hnc : n ≤ c) (h : Code8 w w.heap.size A n f) :
    Calls Try.prog 13 #[.slice A n c] w (Opens w) := by
  by_cases hl : 2000 < n
  · have hd : Code8 w w.heap.size A 2000 f := ⟨fun _ => by
      obtain ⟨ad, e, hb, hc⟩ := h.1 (by omega)
      exact ⟨ad, e, hb, fun k hk => hc k (by omega)⟩, h.2⟩
    obtain ⟨ad, rfl, _, _⟩ := h.1 (by omega)
    clear h
    go_enter Try.func13, Try.ntmps13
    go_wp2
    go_ret
    exact ⟨_, Nat.le_refl _, rfl, rdr_new (by omega) hd, (Below.refl _ _).alloc (Nat.le_refl _) _⟩
  · go_enter Try.func13, Try.ntmps13
    go_wp2
    go_ret
    exact ⟨_, Nat.le_refl _, rfl, rdr_new (by omega) h, (Below.refl _ _).alloc (Nat.le_refl _) _⟩
end Go.Proofs.Ytpanefjjghlhiaa
