/-
  laws.FnFringe: for every input the law returns true and leaves its arguments as they were. No condition. (The frame is the kit's own shell; the walk is l_FnFringe.)
-/
import Derived.Test.YtpanefjjghlhiaaRows
import Derived.Test.YtpanefjjghlhiaaIo
import Derived.Test.YtpanefjjghlhiaaFrL8
import Derived.WalkKit
import Derived.ProofKit
import Derived.OpenShut
import Derived.ShutString
import Derived.ChangeOld
import Derived.Below
import Derived.Deep.Grids
import Derived.Deep.Matrix
import Derived.Deep.Fields
import Derived.Deep.SlicePairs
namespace Go.Proofs.Ytpanefjjghlhiaa.fnFringe
open Go.ChangeShapes Go.WideShapes Go.ChangeAt Go.RowKit Go.Deep
set_option linter.unusedVariables false

theorem own : ownKnob Try.prog.godebug = none := by kernel_rfl
theorem laidOut : laidOutB Try.prog = true := by kernel_rfl

set_option maxRecDepth 100000 in
theorem lifted (os : Os) (started : os.Started) (H : Type) (enc : TypeId × Value → H) :
    ReturnsInHanded {} Try.checked os 3 .any (Rows.fnFringeSpec.pre6 enc Try.prog Try.f3 Rows.fnFringeRow.domain false) (Rows.fnFringeSpec.post enc Try.prog Try.f3 false true false false) := by
  refine returnsInHanded_of_change (C := Try.checked) own started (by kernel_rfl) Try.func3
    (ChangeSpec.witness6 (enc := enc) (C := Try.checked) false ⟨#[], #[.slice none 0 0, .slice none 0 0], []⟩ 8 (by kernel_rfl) (by kernel_rfl) (by kernel_rfl) (by kernel_rfl)) ?_
  intro W base args ds gs before hval0 hW hcnd _
  have hval : ∀ (j : Nat) t v, Try.f3.params[j]? = some t → args[j]? = some v → Value.okWide Try.prog W .any base t v := hval0
  have hW' := hW
  obtain ⟨p, q, hA0, hV, rfl, hfz, hnd⟩ := hW
  have hA : DataW.TrodAll enc Try.prog W 0 (fun _ => true) true Try.f3.params.toList args.toList ds p := hA0
  rw [Try.params3] at hA hval
  obtain ⟨v0, vs0, d0, ds0, p0, q0, hargs, rfl, rfl, h0, r0⟩ := trodAll_cons hA
  obtain ⟨v1, vs1, d1, ds1, p1, q1, rfl, rfl, rfl, h1, r1⟩ := trodAll_cons r0
  obtain ⟨rfl, rfl, rfl⟩ := trodAll_nil r1
  obtain rfl : args = #[v0, v1] := by cases args; simp_all
  obtain ⟨rfl, rfl⟩ := trodVars_none hV
  obtain ⟨a0, len0, cap0, rfl⟩ := okWide_slice Try.underlying22 (hval 0 22 v0 rfl rfl)
  have k0 := h0
  have lt0 : ∀ x ∈ p0, x.block < W.heap.size := by obtain ⟨m, hm⟩ := k0; exact DataW.trod_lt m _ _ _ hm
  obtain ⟨f0, R0, G0, LC0⟩ : ∃ f : Nat → Int, Rd W W.heap.size a0 len0 (fun i => .int .u8 (f i)) ∧ (∀ i, (Lit.int .u8 (f i)).wf = true) ∧ len0 ≤ cap0 := by
    obtain ⟨fuel, hf⟩ := h0
    rcases open_ints Try.underlying22 Try.underlying5 (by kernel_rfl) hf with ⟨hcs, _⟩ | ⟨x, l, c, zs, hcs, _, hl, hm, hz, _, hcell, hwz⟩
    · simp [Value.cells] at hcs
      obtain ⟨rfl, rfl, rfl⟩ := hcs
      exact ⟨fun _ => 0, fun h => absurd h (by omega), fun _ => by show (Lit.int .u8 0).wf = true; decide, Nat.le_refl _⟩
    · simp [Value.cells] at hcs
      obtain ⟨rfl, rfl, rfl⟩ := hcs
      have hz' : zs.length = cap0 := by simpa using hz
      refine ⟨fun i => zs.getD i 0, fun hn => ⟨x, rfl, ?_, fun i hi => hcell i (by omega)⟩, fun i => ?_, hl⟩
      · have := World.block_lt_of_cell? _ _ (hcell 0 (by omega))
        rwa [block_add] at this
      · by_cases hi : i < zs.length
        · exact hwz _ (by simp [hi])
        · simp [List.getD, List.getElem?_eq_none (Nat.le_of_not_lt hi)]; decide
  have B0 : ∀ i, 0 ≤ f0 i ∧ f0 i ≤ 255 := fun i => by have := bounds_u8 (G0 i); omega
  obtain ⟨a1, len1, cap1, rfl⟩ := okWide_slice Try.underlying22 (hval 1 22 v1 rfl rfl)
  have k1 := h1
  have lt1 : ∀ x ∈ p1, x.block < W.heap.size := by obtain ⟨m, hm⟩ := k1; exact DataW.trod_lt m _ _ _ hm
  obtain ⟨f1, R1, G1, LC1⟩ : ∃ f : Nat → Int, Rd W W.heap.size a1 len1 (fun i => .int .u8 (f i)) ∧ (∀ i, (Lit.int .u8 (f i)).wf = true) ∧ len1 ≤ cap1 := by
    obtain ⟨fuel, hf⟩ := h1
    rcases open_ints Try.underlying22 Try.underlying5 (by kernel_rfl) hf with ⟨hcs, _⟩ | ⟨x, l, c, zs, hcs, _, hl, hm, hz, _, hcell, hwz⟩
    · simp [Value.cells] at hcs
      obtain ⟨rfl, rfl, rfl⟩ := hcs
      exact ⟨fun _ => 0, fun h => absurd h (by omega), fun _ => by show (Lit.int .u8 0).wf = true; decide, Nat.le_refl _⟩
    · simp [Value.cells] at hcs
      obtain ⟨rfl, rfl, rfl⟩ := hcs
      have hz' : zs.length = cap1 := by simpa using hz
      refine ⟨fun i => zs.getD i 0, fun hn => ⟨x, rfl, ?_, fun i hi => hcell i (by omega)⟩, fun i => ?_, hl⟩
      · have := World.block_lt_of_cell? _ _ (hcell 0 (by omega))
        rwa [block_add] at this
      · by_cases hi : i < zs.length
        · exact hwz _ (by simp [hi])
        · simp [List.getD, List.getElem?_eq_none (Nat.le_of_not_lt hi)]; decide
  have B1 : ∀ i, 0 ≤ f1 i ∧ f1 i ≤ 255 := fun i => by have := bounds_u8 (G1 i); omega
  clear hA0 hval0
  refine (l_FnFringe a0 len0 cap0 f0 a1 len1 cap1 f1 W R0 B0 LC0 R1 B1 LC1).mono fun e W' ⟨he, bel⟩ => ?_
  subst he
  exact ⟨_, rfl, _, _, _, [], _, [], hW', trodAll_mk1 (shut_bool Try.underlying4 _), (trodAll_cons_mk (Below.trod laidOut (by kernel_rfl) (of_decide_eq_true (by kernel_rfl)) k0 bel lt0) (trodAll_cons_mk (Below.trod laidOut (by kernel_rfl) (of_decide_eq_true (by kernel_rfl)) k1 bel lt1) trodAll_mk0)), rfl, bel.frame _, fun h => by cases h⟩

theorem closed : joinedFacts Try.pinned.checked.prog 3 Try.f3 Rows.fnFringeSpec Rows.fnFringeRow = true := by
  unfold joinedFacts
  rw [Io.mayEnter_eq, Io.liftsFinal_eq, Io.make_eq]
  kernel_rfl
theorem over : Rows.fnFringeRow.holds Try.pinned (OpenSpec.ofChange Rows.fnFringeSpec) :=
  OpenClaim.holds_of_wide 3 Try.f3 rfl rfl rfl rfl rfl rfl rfl ⟨rfl, rfl, rfl, rfl, rfl⟩ rfl rfl rfl rfl rfl (by kernel_rfl) Try.func3 closed
    (of_decide_eq_true (by kernel_rfl)) (by unfold Func.isWrapper; first | (rw [if_pos (by decide +kernel)]; kernel_rfl) | (rw [if_neg (by decide +kernel)]; exact ⟨rfl, rfl⟩))
    (fun os started H enc _ => lifted os started H enc)

/-- The statement. -/
theorem proved : Rows.FnFringeSaid := over
#print axioms proved
end Go.Proofs.Ytpanefjjghlhiaa.fnFringe
