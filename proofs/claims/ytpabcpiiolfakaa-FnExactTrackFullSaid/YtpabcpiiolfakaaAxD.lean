/-
  Scaled arrays, coverages: the program's answer is the reference's; the argument is left alone; the answer is a list of its own.
-/
import Derived.Test.YtpabcpiiolfakaaTrackC
import Derived.Test.YtpabcpiiolfakaaMarksB
namespace Go.Proofs.Ytpabcpiiolfakaa
open Go.RowKit Go.Deep

theorem mark_from {w : World} {B n : Nat} {t : TypeId} {A : Option Addr} {f : Nat → Value} (h : Made w B t A n f) : ∀ ad : Addr, (if n = 0 then none else A) = some ad → B ≤ ad.block := by
  intro ad e
  by_cases hn : n = 0
  · simp [hn] at e
  · rw [if_neg hn] at e
    obtain ⟨g, rfl, hg, _⟩ := h (by omega)
    injection e with e
    subst e
    exact hg
theorem Made.only_lt {w w' : World} {B n : Nat} {t : TypeId} {A A' : Option Addr} {f : Nat → Value} (h : Made w B t A n f) (ho : Only w w' A') (hA : ∀ ad : Addr, A' = some ad → ad.block < B) : Made w' B t A n f := fun hn => by
  obtain ⟨g, rfl, hg, hr⟩ := h hn
  exact ⟨g, rfl, hg, hr.only ho (fun ad e => by have := hA ad e; omega)⟩
theorem some_at {g : Nat} : ∀ ad : Addr, some (⟨g, 0, none⟩ : Addr) = some ad → ad.block = g := by
  intro ad e
  injection e with e
  subst e
  rfl

end Go.Proofs.Ytpabcpiiolfakaa
