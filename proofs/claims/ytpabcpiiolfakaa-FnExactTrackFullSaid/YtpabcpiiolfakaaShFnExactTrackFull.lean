/-
  laws.FnExactTrackFull: for every input the law returns true and leaves its arguments as they were. No condition. (The frame is the kit's own shell; the walk is l_FnExactTrackFull.)
-/
import Derived.Test.YtpabcpiiolfakaaRows
import Derived.Test.YtpabcpiiolfakaaIo
import Derived.Test.YtpabcpiiolfakaaAxE
import Derived.WalkKit
import Derived.ProofKit
import Derived.OpenShut
import Derived.ShutString
import Derived.ChangeOld
import Derived.Below
import Derived.Deep.Grids
import Derived.Deep.Matrix
import Derived.Deep.Fields
import Derived.Deep.SlicePairs
namespace Go.Proofs.Ytpabcpiiolfakaa.fnExactTrackFull
open Go.ChangeShapes Go.WideShapes Go.ChangeAt Go.RowKit Go.Deep
set_option linter.unusedVariables false

theorem own : ownKnob Try.prog.godebug = none := by kernel_rfl
theorem laidOut : laidOutB Try.prog = true := by kernel_rfl

set_option maxRecDepth 100000 in
theorem lifted (os : Os) (started : os.Started) (H : Type) (enc : TypeId × Value → H) :
    ReturnsInHanded {} Try.checked os 9 .any (Rows.fnExactTrackFullSpec.pre6 enc Try.prog Try.f9 Rows.fnExactTrackFullRow.domain false) (Rows.fnExactTrackFullSpec.post enc Try.prog Try.f9 false true false false) := by
  refine returnsInHanded_of_change (C := Try.checked) own started (by kernel_rfl) Try.func9
    (ChangeSpec.witness6 (enc := enc) (C := Try.checked) false ⟨#[], #[.slice none 0 0], []⟩ 8 (by kernel_rfl) (by kernel_rfl) (by kernel_rfl) (by kernel_rfl)) ?_
  intro W base args ds gs before hval0 hW hcnd _
  have hval : ∀ (j : Nat) t v, Try.f9.params[j]? = some t → args[j]? = some v → Value.okWide Try.prog W .any base t v := hval0
  have hW' := hW
  obtain ⟨p, q, hA0, hV, rfl, hfz, hnd⟩ := hW
  have hA : DataW.TrodAll enc Try.prog W 0 (fun _ => true) true Try.f9.params.toList args.toList ds p := hA0
  rw [Try.params9] at hA hval
  obtain ⟨v0, vs0, d0, ds0, p0, q0, hargs, rfl, rfl, h0, r0⟩ := trodAll_cons hA
  obtain ⟨rfl, rfl, rfl⟩ := trodAll_nil r0
  obtain rfl : args = #[v0] := by cases args; simp_all
  obtain ⟨rfl, rfl⟩ := trodVars_none hV
  obtain ⟨a0, len0, cap0, rfl⟩ := okWide_slice Try.underlying42 (hval 0 42 v0 rfl rfl)
  have k0 := h0
  have lt0 : ∀ x ∈ p0, x.block < W.heap.size := by obtain ⟨m, hm⟩ := k0; exact DataW.trod_lt m _ _ _ hm
  obtain ⟨X0, Y0, R0, M0⟩ : ∃ (X Y : Nat → Int), RdA W W.heap.size a0 len0 X Y ∧ len0 ≤ maxLen := by
    obtain ⟨fuel, hf⟩ := h0
    rcases open_slice_pairs Try.underlying42 Try.underlying74 (by kernel_rfl) rfl rfl (by kernel_rfl) (by kernel_rfl) hf with ⟨hcs, _⟩ | ⟨x, l, c, m, q, V0, V1, D0, D1, P0, P1, hcs, _, hl, hm, hmm, _, hcell⟩
    · simp [Value.cells] at hcs
      obtain ⟨rfl, rfl, rfl⟩ := hcs
      exact ⟨fun _ => 0, fun _ => 0, fun h => absurd h (by omega), Nat.zero_le _⟩
    · simp [Value.cells] at hcs
      obtain ⟨rfl, rfl, rfl⟩ := hcs
      have hlm : len0 ≤ m := by rw [hmm]; split <;> omega
      have hv : ∀ i, i < m → V0 i = .int .i64 (intOf (V0 i)) ∧ V1 i = .int .i64 (intOf (V1 i)) := fun i hi => by
        obtain ⟨_, _, t0, t1⟩ := hcell i hi
        obtain ⟨z0, e0, _⟩ := DataW.trod_int Try.underlying3 t0
        obtain ⟨z1, e1, _⟩ := DataW.trod_int Try.underlying3 t1
        injection e0 with e0
        injection e1 with e1
        rw [e0, e1]
        exact ⟨rfl, rfl⟩
      refine ⟨fun i => intOf (V0 i), fun i => intOf (V1 i), fun hn => ⟨x, rfl, ?_, fun j hj => ?_⟩, Nat.le_trans hl hm⟩
      · have := World.block_lt_of_cell? _ _ (hcell 0 (by omega)).1
        rwa [block_add] at this
      · obtain ⟨h0, h1, _, _⟩ := hcell (j / 2) (by omega)
        obtain ⟨v0, v1⟩ := hv (j / 2) (by omega)
        have hj2 : j = j / 2 * 2 ∨ j = j / 2 * 2 + 1 := by omega
        rcases hj2 with e | e
        · rw [e, flat_even, ← v0, ← e]
          rw [← e] at h0
          exact h0
        · rw [e, flat_odd, ← v1, ← e]
          rw [← e] at h1
          exact h1
  clear hA0 hval0
  refine (l_FnExactTrackFull a0 len0 cap0 X0 Y0 W R0 M0).mono fun e W' ⟨he, bel⟩ => ?_
  subst he
  exact ⟨_, rfl, _, _, _, [], _, [], hW', trodAll_mk1 (shut_bool Try.underlying4 _), (trodAll_cons_mk (Below.trod laidOut (by kernel_rfl) (of_decide_eq_true (by kernel_rfl)) k0 bel lt0) trodAll_mk0), rfl, bel.frame _, fun h => by cases h⟩

theorem closed : joinedFacts Try.pinned.checked.prog 9 Try.f9 Rows.fnExactTrackFullSpec Rows.fnExactTrackFullRow = true := by
  unfold joinedFacts
  rw [Io.mayEnter_eq, Io.liftsFinal_eq, Io.make_eq]
  kernel_rfl
theorem over : Rows.fnExactTrackFullRow.holds Try.pinned (OpenSpec.ofChange Rows.fnExactTrackFullSpec) :=
  OpenClaim.holds_of_wide 9 Try.f9 rfl rfl rfl rfl rfl rfl rfl ⟨rfl, rfl, rfl, rfl, rfl⟩ rfl rfl rfl rfl rfl (by kernel_rfl) Try.func9 closed
    (of_decide_eq_true (by kernel_rfl)) (by unfold Func.isWrapper; first | (rw [if_pos (by decide +kernel)]; kernel_rfl) | (rw [if_neg (by decide +kernel)]; exact ⟨rfl, rfl⟩))
    (fun os started H enc _ => lifted os started H enc)

/-- The statement. -/
theorem proved : Rows.FnExactTrackFullSaid := over
#print axioms proved
end Go.Proofs.Ytpabcpiiolfakaa.fnExactTrackFull
