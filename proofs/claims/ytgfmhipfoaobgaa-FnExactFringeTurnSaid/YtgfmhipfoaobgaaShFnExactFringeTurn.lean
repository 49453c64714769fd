/-
  laws.FnExactFringeTurn: for every input the law returns true and leaves its arguments as they were. No condition. (The frame is the kit's own shell; the walk is l_FnExactFringeTurn.)
-/
import Derived.Test.YtgfmhipfoaobgaaRows
import Derived.Test.YtgfmhipfoaobgaaIo
import Derived.Test.YtgfmhipfoaobgaaFrL2
import Derived.WalkKit
import Derived.ProofKit
import Derived.OpenShut
import Derived.ShutString
import Derived.ChangeOld
import Derived.Below
import Derived.Deep.Grids
import Derived.Deep.Matrix
import Derived.Deep.Fields
namespace Go.Proofs.Ytgfmhipfoaobgaa.fnExactFringeTurn
open Go.ChangeShapes Go.WideShapes Go.ChangeAt Go.RowKit Go.Deep
set_option linter.unusedVariables false

theorem own : ownKnob Try.prog.godebug = none := by kernel_rfl
theorem laidOut : laidOutB Try.prog = true := by kernel_rfl

set_option maxRecDepth 100000 in
theorem lifted (os : Os) (started : os.Started) (H : Type) (enc : TypeId × Value → H) :
    ReturnsInHanded {} Try.checked os 18 .any (Rows.fnExactFringeTurnSpec.pre6 enc Try.prog Try.f18 Rows.fnExactFringeTurnRow.domain false) (Rows.fnExactFringeTurnSpec.post enc Try.prog Try.f18 false true false false) := by
  refine returnsInHanded_of_change (C := Try.checked) own started (by kernel_rfl) Try.func18
    (ChangeSpec.witness6 (enc := enc) (C := Try.checked) false ⟨#[], #[.slice none 0 0, .int .i64 0, .int .i64 0, .int .i64 0], []⟩ 8 (by kernel_rfl) (by kernel_rfl) (by kernel_rfl) (by kernel_rfl)) ?_
  intro W base args ds gs before hval0 hW hcnd _
  have hval : ∀ (j : Nat) t v, Try.f18.params[j]? = some t → args[j]? = some v → Value.okWide Try.prog W .any base t v := hval0
  have hW' := hW
  obtain ⟨p, q, hA0, hV, rfl, hfz, hnd⟩ := hW
  have hA : DataW.TrodAll enc Try.prog W 0 (fun _ => true) true Try.f18.params.toList args.toList ds p := hA0
  rw [Try.params18] at hA hval
  obtain ⟨v0, vs0, d0, ds0, p0, q0, hargs, rfl, rfl, h0, r0⟩ := trodAll_cons hA
  obtain ⟨v1, vs1, d1, ds1, p1, q1, rfl, rfl, rfl, h1, r1⟩ := trodAll_cons r0
  obtain ⟨v2, vs2, d2, ds2, p2, q2, rfl, rfl, rfl, h2, r2⟩ := trodAll_cons r1
  obtain ⟨v3, vs3, d3, ds3, p3, q3, rfl, rfl, rfl, h3, r3⟩ := trodAll_cons r2
  obtain ⟨rfl, rfl, rfl⟩ := trodAll_nil r3
  obtain rfl : args = #[v0, v1, v2, v3] := by cases args; simp_all
  obtain ⟨rfl, rfl⟩ := trodVars_none hV
  obtain ⟨a0, len0, cap0, rfl⟩ := okWide_slice Try.underlying22 (hval 0 22 v0 rfl rfl)
  have k0 := h0
  have lt0 : ∀ x ∈ p0, x.block < W.heap.size := by obtain ⟨m, hm⟩ := k0; exact DataW.trod_lt m _ _ _ hm
  obtain ⟨V0, L0, f0, R0, M0, N0⟩ : ∃ (V : Nat → Value) (L : Nat → Nat) (f : Nat → Nat → Int), RdR W W.heap.size a0 len0 V L f ∧ len0 ≤ maxLen ∧ ∀ r, r < len0 → L r ≤ maxLen := by
    obtain ⟨fuel, hf⟩ := h0
    rcases open_int_rows Try.underlying22 Try.underlying32 Try.underlying3 (by kernel_rfl) (by kernel_rfl) hf with ⟨hcs, _⟩ | ⟨x, l, c, A, L, C, Z, hcs, _, hl, hm, _, hcell⟩
    · simp [Value.cells] at hcs
      obtain ⟨rfl, rfl, rfl⟩ := hcs
      exact ⟨fun _ => .slice none 0 0, fun _ => 0, fun _ _ => 0, ⟨fun h => absurd h (by omega), fun r h => absurd h (by omega)⟩, Nat.zero_le _, fun r h => absurd h (by omega)⟩
    · simp [Value.cells] at hcs
      obtain ⟨rfl, rfl, rfl⟩ := hcs
      refine ⟨fun r => .slice (A r) (L r) (C r), L, fun r i => (Z r).getD i 0, ⟨fun hn => ⟨x, rfl, ?_, fun i hi => (hcell i (by omega)).1⟩, fun r hr => ⟨A r, C r, rfl, fun hL => ?_⟩⟩, Nat.le_trans hl hm, fun r hr => Nat.le_trans (hcell r (by omega)).2.1 (hcell r (by omega)).2.2.1⟩
      · have := World.block_lt_of_cell? _ _ (hcell 0 (by omega)).1
        rwa [block_add] at this
      · obtain ⟨_, h1, _, _, _, h2, h3⟩ := hcell r (by omega)
        cases hA : A r with
        | none => have := h2 hA; omega
        | some a' =>
          refine ⟨a', rfl, ?_, fun i hi => (h3 a' hA).2 i (by omega)⟩
          have := World.block_lt_of_cell? _ _ ((h3 a' hA).2 0 (by omega))
          rwa [block_add] at this
  obtain ⟨x1, rfl, rfl, rfl, g1⟩ := open_int Try.underlying3 (hval 1 3 v1 rfl rfl) h1
  obtain ⟨x2, rfl, rfl, rfl, g2⟩ := open_int Try.underlying3 (hval 2 3 v2 rfl rfl) h2
  obtain ⟨x3, rfl, rfl, rfl, g3⟩ := open_int Try.underlying3 (hval 3 3 v3 rfl rfl) h3
  clear hA0 hval0
  refine (l_FnExactFringeTurn a0 len0 cap0 V0 L0 f0 x1 x2 x3 W R0 M0 N0).mono fun e W' ⟨he, bel⟩ => ?_
  subst he
  exact ⟨_, rfl, _, _, _, [], _, [], hW', trodAll_mk1 (shut_bool Try.underlying4 _), (trodAll_cons_mk (Below.trod laidOut (by kernel_rfl) (of_decide_eq_true (by kernel_rfl)) k0 bel lt0) (trodAll_cons_mk (shut_int Try.underlying3 g1) (trodAll_cons_mk (shut_int Try.underlying3 g2) (trodAll_cons_mk (shut_int Try.underlying3 g3) trodAll_mk0)))), rfl, bel.frame _, fun h => by cases h⟩

theorem closed : joinedFacts Try.pinned.checked.prog 18 Try.f18 Rows.fnExactFringeTurnSpec Rows.fnExactFringeTurnRow = true := by
  unfold joinedFacts
  rw [Io.mayEnter_eq, Io.liftsFinal_eq, Io.make_eq]
  kernel_rfl
theorem over : Rows.fnExactFringeTurnRow.holds Try.pinned (OpenSpec.ofChange Rows.fnExactFringeTurnSpec) :=
  OpenClaim.holds_of_wide 18 Try.f18 rfl rfl rfl rfl rfl rfl rfl ⟨rfl, rfl, rfl, rfl, rfl⟩ rfl rfl rfl rfl rfl (by kernel_rfl) Try.func18 closed
    (of_decide_eq_true (by kernel_rfl)) (by unfold Func.isWrapper; first | (rw [if_pos (by decide +kernel)]; kernel_rfl) | (rw [if_neg (by decide +kernel)]; exact ⟨rfl, rfl⟩))
    (fun os started H enc _ => lifted os started H enc)

/-- The statement. -/
theorem proved : Rows.FnExactFringeTurnSaid := over
#print axioms proved
end Go.Proofs.Ytgfmhipfoaobgaa.fnExactFringeTurn
