/-
  The seat's head of the translation (its words), read once: the facts on it that a claim's closed cells ask. No condition.
-/
import Derived.Test.YtpanefjjghlhiaaRows
import Derived.JoinedOf
namespace Go.Proofs.Ytpanefjjghlhiaa.Io
set_option maxRecDepth 100000
theorem mayEnter_gen (P : Program) (r : List (List Char)) (hr : behindMainWord (wordsSigns P.initOrder.toList) = "cut".toList :: r) (b2 : P.laysLater = false) (b3 : P.doorFits [] = true) (b4 : P.bearsReflect = false) : P.mayEnter = true := by
  have s1 : stripLifts liftWords ("cut".toList :: r) = ([], "cut".toList :: r) := by rfl
  unfold Program.mayEnter
  rw [hr]
  simp only [s1, b2, b3, b4]
  rfl
theorem headLifts_gen (P : Program) (r : List (List Char)) (hr : behindMainWord (wordsSigns P.initOrder.toList) = "cut".toList :: r) : P.headLifts = [] := by
  have s1 : stripLifts liftWords ("cut".toList :: r) = ([], "cut".toList :: r) := by rfl
  unfold Program.headLifts
  rw [hr, s1]
  rfl
theorem liftsFinal_gen (P : Program) (r : List (List Char)) (hr : behindMainWord (wordsSigns P.initOrder.toList) = "cut".toList :: r) : P.liftsFinal = false := by
  unfold Program.liftsFinal
  rw [headLifts_gen P r hr, hr]
  rfl
theorem make_gen (P : Program) (r : List (List Char)) (hr : behindMainWord (wordsSigns P.initOrder.toList) = "cut".toList :: r) : P.make = some Make.cut := by
  unfold Program.make
  rw [headLifts_gen P r hr, hr]
  rfl
theorem io : Try.pinned.checked.prog.initOrder = "harness 31e0e2b36a16a03d3029c132e3ac291252e868435a7abf1a9b31ae35ccf4e579 cut at loop.example/radiointerferometer/laws.FnFringe loop.example/radiointerferometer/laws.FnFringeFitWrong" := by kernel_rfl
theorem ws : ∃ r, behindMainWord (wordsSigns Try.pinned.checked.prog.initOrder.toList) = "cut".toList :: r := by
  obtain ⟨l, hl, hr⟩ : ∃ l, Try.pinned.checked.prog.initOrder.toList = l ∧ (behindMainWord (wordsSigns l)).head? = some "cut".toList := by
    rw [io]
    refine ⟨_, String.toList_ofList (l := _), ?_⟩
    kernel_rfl
  rw [hl]
  cases h : behindMainWord (wordsSigns l) with
  | nil => rw [h] at hr; cases hr
  | cons a r => rw [h] at hr; injection hr with hr; exact ⟨r, by rw [hr]⟩
theorem mayEnter_eq : Try.pinned.checked.prog.mayEnter = true := by
  obtain ⟨r, hr⟩ := ws
  exact mayEnter_gen _ r hr (by kernel_rfl) (by kernel_rfl) (by kernel_rfl)
theorem liftsFinal_eq : Try.pinned.checked.prog.liftsFinal = false := by
  obtain ⟨r, hr⟩ := ws
  exact liftsFinal_gen _ r hr
theorem make_eq : Try.pinned.checked.prog.make = some Make.cut := by
  obtain ⟨r, hr⟩ := ws
  exact make_gen _ r hr
end Go.Proofs.Ytpanefjjghlhiaa.Io
