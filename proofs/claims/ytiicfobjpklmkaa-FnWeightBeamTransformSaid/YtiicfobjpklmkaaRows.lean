/-
  No cell of these rows narrows 'for every input' (looked for: loops, veiled, ifaces, maps, wideKeys, modest, calm, conditions, laid).
  DERIVED. THE GIVEN ROWS OF THIS SEAT. 12 by the template 'for every input the law returns true; each argument reads behind the call as it read before'; 0 by the template 'total and deterministic' (their statements: YtiicfobjpklmkaaTotals.lean).
  GIVEN WITH THE SEED: the statements are not yours to turn. If you find one false, say at which input.
  Laid BY PROGRAM, IN A SANDBOX (cutbox-rows.mjs): the forced cells as the released guide's own fill.sh prints them over the translation ae1b2b8fd4836d55… (all of the seat's roots in one cut). By AI agents, Wed Nov 11 2026. No macro, syntax, notation, axiom, sorry.
-/
import Derived.Test.YtiicfobjpklmkaaChecked
import GoSem.Claim
import GoSem.ClaimJoined
import GoSem.ClaimMapViews
import Derived.JoinedTies
import Derived.KernelRfl
namespace Go.Proofs.Ytiicfobjpklmkaa
/- THE CELL 'sum', in the pinned program and in every row, IS THE sha256 OF THE DUMP (.gsa) THAT YtiicfobjpklmkaaProg.lean LOADS. Nothing in Lean hashes anything: it is a label: what it is worth is what the hold of that sum in a sandbox is worth. -/
noncomputable def Try.pinned : Pinned := { name := "ytiicfobjpklmkaa", sum := "ae1b2b8fd4836d55098a1d1819278d59c52d1676b01926236ae7d8c56b8eb297", checked := Try.checked }
namespace Rows
def none {H : Type} : Left H := { results := [], args := [] }

/-- 'laws.FnExactWeightValid': WHATEVER THE INPUT: true; the input reads as it did. -/
def fnExactWeightValidSpec : ChangeSpec := { name := "fnExactWeightValid", fn := fun _ => fun
  | [d] => { results := [.lit (.bool true)], args := [d] }
  | _ => none }
def fnExactWeightValidRow : OpenClaim := { program := "ytiicfobjpklmkaa", sum := "ae1b2b8fd4836d55098a1d1819278d59c52d1676b01926236ae7d8c56b8eb297", func := "loop.example/radiointerferometer/laws.FnExactWeightValid", spec := "fnExactWeightValid", apart := false }
def FnExactWeightValidSaid : Prop := fnExactWeightValidRow.holds Try.pinned (OpenSpec.ofChange fnExactWeightValidSpec)

/-- ITS FALSE NEIGHBOUR: 'it returns false'. Refute it at one input. -/
def fnExactWeightValidWrong : ChangeSpec := { name := "fnExactWeightValid", fn := fun _ => fun
  | [d] => { results := [.lit (.bool false)], args := [d] }
  | _ => none }
def FnExactWeightValidWrongFalsely : Prop := fnExactWeightValidRow.holds Try.pinned (OpenSpec.ofChange fnExactWeightValidWrong)

/-- 'laws.FnExactWeightSum': WHATEVER THE INPUT: true; the input reads as it did. -/
def fnExactWeightSumSpec : ChangeSpec := { name := "fnExactWeightSum", fn := fun _ => fun
  | [d] => { results := [.lit (.bool true)], args := [d] }
  | _ => none }
def fnExactWeightSumRow : OpenClaim := { program := "ytiicfobjpklmkaa", sum := "ae1b2b8fd4836d55098a1d1819278d59c52d1676b01926236ae7d8c56b8eb297", func := "loop.example/radiointerferometer/laws.FnExactWeightSum", spec := "fnExactWeightSum", apart := false }
def FnExactWeightSumSaid : Prop := fnExactWeightSumRow.holds Try.pinned (OpenSpec.ofChange fnExactWeightSumSpec)

/-- ITS FALSE NEIGHBOUR: 'it returns false'. Refute it at one input. -/
def fnExactWeightSumWrong : ChangeSpec := { name := "fnExactWeightSum", fn := fun _ => fun
  | [d] => { results := [.lit (.bool false)], args := [d] }
  | _ => none }
def FnExactWeightSumWrongFalsely : Prop := fnExactWeightSumRow.holds Try.pinned (OpenSpec.ofChange fnExactWeightSumWrong)

/-- 'laws.FnWeights': WHATEVER THE INPUT: true; the input reads as it did. -/
def fnWeightsSpec : ChangeSpec := { name := "fnWeights", fn := fun _ => fun
  | [d1, d2] => { results := [.lit (.bool true)], args := [d1, d2] }
  | _ => none }
def fnWeightsRow : OpenClaim := { program := "ytiicfobjpklmkaa", sum := "ae1b2b8fd4836d55098a1d1819278d59c52d1676b01926236ae7d8c56b8eb297", func := "loop.example/radiointerferometer/laws.FnWeights", spec := "fnWeights", apart := false }
def FnWeightsSaid : Prop := fnWeightsRow.holds Try.pinned (OpenSpec.ofChange fnWeightsSpec)

/-- ITS FALSE NEIGHBOUR: 'it returns false'. Refute it at one input. -/
def fnWeightsWrong : ChangeSpec := { name := "fnWeights", fn := fun _ => fun
  | [d1, d2] => { results := [.lit (.bool false)], args := [d1, d2] }
  | _ => none }
def FnWeightsWrongFalsely : Prop := fnWeightsRow.holds Try.pinned (OpenSpec.ofChange fnWeightsWrong)

/-- 'laws.FnWeightSum': WHATEVER THE INPUT: true; the input reads as it did. -/
def fnWeightSumSpec : ChangeSpec := { name := "fnWeightSum", fn := fun _ => fun
  | [d] => { results := [.lit (.bool true)], args := [d] }
  | _ => none }
def fnWeightSumRow : OpenClaim := { program := "ytiicfobjpklmkaa", sum := "ae1b2b8fd4836d55098a1d1819278d59c52d1676b01926236ae7d8c56b8eb297", func := "loop.example/radiointerferometer/laws.FnWeightSum", spec := "fnWeightSum", apart := false }
def FnWeightSumSaid : Prop := fnWeightSumRow.holds Try.pinned (OpenSpec.ofChange fnWeightSumSpec)

/-- ITS FALSE NEIGHBOUR: 'it returns false'. Refute it at one input. -/
def fnWeightSumWrong : ChangeSpec := { name := "fnWeightSum", fn := fun _ => fun
  | [d] => { results := [.lit (.bool false)], args := [d] }
  | _ => none }
def FnWeightSumWrongFalsely : Prop := fnWeightSumRow.holds Try.pinned (OpenSpec.ofChange fnWeightSumWrong)

/-- 'laws.FnExactWeightUniform': WHATEVER THE INPUT: true; the input reads as it did. -/
def fnExactWeightUniformSpec : ChangeSpec := { name := "fnExactWeightUniform", fn := fun _ => fun
  | [d] => { results := [.lit (.bool true)], args := [d] }
  | _ => none }
def fnExactWeightUniformRow : OpenClaim := { program := "ytiicfobjpklmkaa", sum := "ae1b2b8fd4836d55098a1d1819278d59c52d1676b01926236ae7d8c56b8eb297", func := "loop.example/radiointerferometer/laws.FnExactWeightUniform", spec := "fnExactWeightUniform", apart := false }
def FnExactWeightUniformSaid : Prop := fnExactWeightUniformRow.holds Try.pinned (OpenSpec.ofChange fnExactWeightUniformSpec)

/-- ITS FALSE NEIGHBOUR: 'it returns false'. Refute it at one input. -/
def fnExactWeightUniformWrong : ChangeSpec := { name := "fnExactWeightUniform", fn := fun _ => fun
  | [d] => { results := [.lit (.bool false)], args := [d] }
  | _ => none }
def FnExactWeightUniformWrongFalsely : Prop := fnExactWeightUniformRow.holds Try.pinned (OpenSpec.ofChange fnExactWeightUniformWrong)

/-- 'laws.FnExactWeightBeam': WHATEVER THE INPUT: true; the input reads as it did. -/
def fnExactWeightBeamSpec : ChangeSpec := { name := "fnExactWeightBeam", fn := fun _ => fun
  | [d] => { results := [.lit (.bool true)], args := [d] }
  | _ => none }
def fnExactWeightBeamRow : OpenClaim := { program := "ytiicfobjpklmkaa", sum := "ae1b2b8fd4836d55098a1d1819278d59c52d1676b01926236ae7d8c56b8eb297", func := "loop.example/radiointerferometer/laws.FnExactWeightBeam", spec := "fnExactWeightBeam", apart := false }
def FnExactWeightBeamSaid : Prop := fnExactWeightBeamRow.holds Try.pinned (OpenSpec.ofChange fnExactWeightBeamSpec)

/-- ITS FALSE NEIGHBOUR: 'it returns false'. Refute it at one input. -/
def fnExactWeightBeamWrong : ChangeSpec := { name := "fnExactWeightBeam", fn := fun _ => fun
  | [d] => { results := [.lit (.bool false)], args := [d] }
  | _ => none }
def FnExactWeightBeamWrongFalsely : Prop := fnExactWeightBeamRow.holds Try.pinned (OpenSpec.ofChange fnExactWeightBeamWrong)

/-- 'laws.FnExactBeamOf': WHATEVER THE INPUT: true; the input reads as it did. -/
def fnExactBeamOfSpec : ChangeSpec := { name := "fnExactBeamOf", fn := fun _ => fun
  | [d] => { results := [.lit (.bool true)], args := [d] }
  | _ => none }
def fnExactBeamOfRow : OpenClaim := { program := "ytiicfobjpklmkaa", sum := "ae1b2b8fd4836d55098a1d1819278d59c52d1676b01926236ae7d8c56b8eb297", func := "loop.example/radiointerferometer/laws.FnExactBeamOf", spec := "fnExactBeamOf", apart := false }
def FnExactBeamOfSaid : Prop := fnExactBeamOfRow.holds Try.pinned (OpenSpec.ofChange fnExactBeamOfSpec)

/-- ITS FALSE NEIGHBOUR: 'it returns false'. Refute it at one input. -/
def fnExactBeamOfWrong : ChangeSpec := { name := "fnExactBeamOf", fn := fun _ => fun
  | [d] => { results := [.lit (.bool false)], args := [d] }
  | _ => none }
def FnExactBeamOfWrongFalsely : Prop := fnExactBeamOfRow.holds Try.pinned (OpenSpec.ofChange fnExactBeamOfWrong)

/-- 'laws.FnWeightBeam': WHATEVER THE INPUT: true; the input reads as it did. -/
def fnWeightBeamSpec : ChangeSpec := { name := "fnWeightBeam", fn := fun _ => fun
  | [d] => { results := [.lit (.bool true)], args := [d] }
  | _ => none }
def fnWeightBeamRow : OpenClaim := { program := "ytiicfobjpklmkaa", sum := "ae1b2b8fd4836d55098a1d1819278d59c52d1676b01926236ae7d8c56b8eb297", func := "loop.example/radiointerferometer/laws.FnWeightBeam", spec := "fnWeightBeam", apart := false }
def FnWeightBeamSaid : Prop := fnWeightBeamRow.holds Try.pinned (OpenSpec.ofChange fnWeightBeamSpec)

/-- ITS FALSE NEIGHBOUR: 'it returns false'. Refute it at one input. -/
def fnWeightBeamWrong : ChangeSpec := { name := "fnWeightBeam", fn := fun _ => fun
  | [d] => { results := [.lit (.bool false)], args := [d] }
  | _ => none }
def FnWeightBeamWrongFalsely : Prop := fnWeightBeamRow.holds Try.pinned (OpenSpec.ofChange fnWeightBeamWrong)

/-- 'laws.FnWeightBeamTransform': WHATEVER THE INPUT: true; the input reads as it did. -/
def fnWeightBeamTransformSpec : ChangeSpec := { name := "fnWeightBeamTransform", fn := fun _ => fun
  | [d] => { results := [.lit (.bool true)], args := [d] }
  | _ => none }
def fnWeightBeamTransformRow : OpenClaim := { program := "ytiicfobjpklmkaa", sum := "ae1b2b8fd4836d55098a1d1819278d59c52d1676b01926236ae7d8c56b8eb297", func := "loop.example/radiointerferometer/laws.FnWeightBeamTransform", spec := "fnWeightBeamTransform", apart := false }
def FnWeightBeamTransformSaid : Prop := fnWeightBeamTransformRow.holds Try.pinned (OpenSpec.ofChange fnWeightBeamTransformSpec)

/-- ITS FALSE NEIGHBOUR: 'it returns false'. Refute it at one input. -/
def fnWeightBeamTransformWrong : ChangeSpec := { name := "fnWeightBeamTransform", fn := fun _ => fun
  | [d] => { results := [.lit (.bool false)], args := [d] }
  | _ => none }
def FnWeightBeamTransformWrongFalsely : Prop := fnWeightBeamTransformRow.holds Try.pinned (OpenSpec.ofChange fnWeightBeamTransformWrong)

/-- 'laws.FnUniform': WHATEVER THE INPUT: true; the input reads as it did. -/
def fnUniformSpec : ChangeSpec := { name := "fnUniform", fn := fun _ => fun
  | [d] => { results := [.lit (.bool true)], args := [d] }
  | _ => none }
def fnUniformRow : OpenClaim := { program := "ytiicfobjpklmkaa", sum := "ae1b2b8fd4836d55098a1d1819278d59c52d1676b01926236ae7d8c56b8eb297", func := "loop.example/radiointerferometer/laws.FnUniform", spec := "fnUniform", apart := false }
def FnUniformSaid : Prop := fnUniformRow.holds Try.pinned (OpenSpec.ofChange fnUniformSpec)

/-- ITS FALSE NEIGHBOUR: 'it returns false'. Refute it at one input. -/
def fnUniformWrong : ChangeSpec := { name := "fnUniform", fn := fun _ => fun
  | [d] => { results := [.lit (.bool false)], args := [d] }
  | _ => none }
def FnUniformWrongFalsely : Prop := fnUniformRow.holds Try.pinned (OpenSpec.ofChange fnUniformWrong)

/-- 'laws.FnBeamSum': WHATEVER THE INPUT: true; the input reads as it did. -/
def fnBeamSumSpec : ChangeSpec := { name := "fnBeamSum", fn := fun _ => fun
  | [d] => { results := [.lit (.bool true)], args := [d] }
  | _ => none }
def fnBeamSumRow : OpenClaim := { program := "ytiicfobjpklmkaa", sum := "ae1b2b8fd4836d55098a1d1819278d59c52d1676b01926236ae7d8c56b8eb297", func := "loop.example/radiointerferometer/laws.FnBeamSum", spec := "fnBeamSum", apart := false }
def FnBeamSumSaid : Prop := fnBeamSumRow.holds Try.pinned (OpenSpec.ofChange fnBeamSumSpec)

/-- ITS FALSE NEIGHBOUR: 'it returns false'. Refute it at one input. -/
def fnBeamSumWrong : ChangeSpec := { name := "fnBeamSum", fn := fun _ => fun
  | [d] => { results := [.lit (.bool false)], args := [d] }
  | _ => none }
def FnBeamSumWrongFalsely : Prop := fnBeamSumRow.holds Try.pinned (OpenSpec.ofChange fnBeamSumWrong)

/-- 'laws.FnBeamTransform': WHATEVER THE INPUT: true; the input reads as it did. -/
def fnBeamTransformSpec : ChangeSpec := { name := "fnBeamTransform", fn := fun _ => fun
  | [d] => { results := [.lit (.bool true)], args := [d] }
  | _ => none }
def fnBeamTransformRow : OpenClaim := { program := "ytiicfobjpklmkaa", sum := "ae1b2b8fd4836d55098a1d1819278d59c52d1676b01926236ae7d8c56b8eb297", func := "loop.example/radiointerferometer/laws.FnBeamTransform", spec := "fnBeamTransform", apart := false }
def FnBeamTransformSaid : Prop := fnBeamTransformRow.holds Try.pinned (OpenSpec.ofChange fnBeamTransformSpec)

/-- ITS FALSE NEIGHBOUR: 'it returns false'. Refute it at one input. -/
def fnBeamTransformWrong : ChangeSpec := { name := "fnBeamTransform", fn := fun _ => fun
  | [d] => { results := [.lit (.bool false)], args := [d] }
  | _ => none }
def FnBeamTransformWrongFalsely : Prop := fnBeamTransformRow.holds Try.pinned (OpenSpec.ofChange fnBeamTransformWrong)

/- THE SECOND FORM. 'bulk': how many values and letters a reading holds, each counted each time it is reached (what is shared counts as often as it is met; a slice's spare places count too). A statement '..UptoSaid' is the law's where the arguments, and the package variables that the reading takes, are together of bulk at most 1048576: NARROWER than '..Said'. Prove '..Said' where nothing that the law and all that it calls make is longer than what came in: it says more and counts as full. Else prove '..UptoSaid'. A law counts once. -/
mutual
def uptoBulk {H : Type} : DataW H → Nat
  | .lit (.string bytes) => bytes.length + 1
  | .lit _ => 1
  | .nil => 1
  | .ptr d => uptoBulk d + 1
  | .slice elems spare => uptoBulkAll elems + uptoBulkAll spare + 1
  | .agg parts => uptoBulkAll parts + 1
  | .iface _ d => uptoBulk d + 1
  | .map entries => uptoBulkEntries entries + 1
  | .held _ => 1
def uptoBulkAll {H : Type} : List (DataW H) → Nat
  | [] => 0
  | d :: r => uptoBulk d + uptoBulkAll r
def uptoBulkEntries {H : Type} : List (Lit × DataW H) → Nat
  | [] => 0
  | x :: r => uptoBulkEntry x + uptoBulkEntries r
def uptoBulkEntry {H : Type} : Lit × DataW H → Nat
  | (.string bytes, d) => bytes.length + uptoBulk d + 1
  | (_, d) => uptoBulk d + 1
 end
def uptoSmall : (H : Type) → List (DataW H) → Bool := fun _ ds => decide (uptoBulkAll ds ≤ 1048576)
def OpenSpec.upto (s : _root_.Go.ChangeSpec) : _root_.Go.OpenSpec := { _root_.Go.OpenSpec.ofChange s with cond := some uptoSmall }

/-- 'laws.FnExactWeightValid', WHERE WHAT IT READS IS OF BULK AT MOST 1048576: true; the input reads as it did. -/
def fnExactWeightValidUptoRow : OpenClaim := { program := "ytiicfobjpklmkaa", sum := "ae1b2b8fd4836d55098a1d1819278d59c52d1676b01926236ae7d8c56b8eb297", func := "loop.example/radiointerferometer/laws.FnExactWeightValid", spec := "fnExactWeightValid", apart := false, narrowed := true }
def FnExactWeightValidUptoSaid : Prop := fnExactWeightValidUptoRow.holds Try.pinned (OpenSpec.upto fnExactWeightValidSpec)

/-- 'laws.FnExactWeightSum', WHERE WHAT IT READS IS OF BULK AT MOST 1048576: true; the input reads as it did. -/
def fnExactWeightSumUptoRow : OpenClaim := { program := "ytiicfobjpklmkaa", sum := "ae1b2b8fd4836d55098a1d1819278d59c52d1676b01926236ae7d8c56b8eb297", func := "loop.example/radiointerferometer/laws.FnExactWeightSum", spec := "fnExactWeightSum", apart := false, narrowed := true }
def FnExactWeightSumUptoSaid : Prop := fnExactWeightSumUptoRow.holds Try.pinned (OpenSpec.upto fnExactWeightSumSpec)

/-- 'laws.FnWeights', WHERE WHAT IT READS IS OF BULK AT MOST 1048576: true; the input reads as it did. -/
def fnWeightsUptoRow : OpenClaim := { program := "ytiicfobjpklmkaa", sum := "ae1b2b8fd4836d55098a1d1819278d59c52d1676b01926236ae7d8c56b8eb297", func := "loop.example/radiointerferometer/laws.FnWeights", spec := "fnWeights", apart := false, narrowed := true }
def FnWeightsUptoSaid : Prop := fnWeightsUptoRow.holds Try.pinned (OpenSpec.upto fnWeightsSpec)

/-- 'laws.FnWeightSum', WHERE WHAT IT READS IS OF BULK AT MOST 1048576: true; the input reads as it did. -/
def fnWeightSumUptoRow : OpenClaim := { program := "ytiicfobjpklmkaa", sum := "ae1b2b8fd4836d55098a1d1819278d59c52d1676b01926236ae7d8c56b8eb297", func := "loop.example/radiointerferometer/laws.FnWeightSum", spec := "fnWeightSum", apart := false, narrowed := true }
def FnWeightSumUptoSaid : Prop := fnWeightSumUptoRow.holds Try.pinned (OpenSpec.upto fnWeightSumSpec)

/-- 'laws.FnExactWeightUniform', WHERE WHAT IT READS IS OF BULK AT MOST 1048576: true; the input reads as it did. -/
def fnExactWeightUniformUptoRow : OpenClaim := { program := "ytiicfobjpklmkaa", sum := "ae1b2b8fd4836d55098a1d1819278d59c52d1676b01926236ae7d8c56b8eb297", func := "loop.example/radiointerferometer/laws.FnExactWeightUniform", spec := "fnExactWeightUniform", apart := false, narrowed := true }
def FnExactWeightUniformUptoSaid : Prop := fnExactWeightUniformUptoRow.holds Try.pinned (OpenSpec.upto fnExactWeightUniformSpec)

/-- 'laws.FnExactWeightBeam', WHERE WHAT IT READS IS OF BULK AT MOST 1048576: true; the input reads as it did. -/
def fnExactWeightBeamUptoRow : OpenClaim := { program := "ytiicfobjpklmkaa", sum := "ae1b2b8fd4836d55098a1d1819278d59c52d1676b01926236ae7d8c56b8eb297", func := "loop.example/radiointerferometer/laws.FnExactWeightBeam", spec := "fnExactWeightBeam", apart := false, narrowed := true }
def FnExactWeightBeamUptoSaid : Prop := fnExactWeightBeamUptoRow.holds Try.pinned (OpenSpec.upto fnExactWeightBeamSpec)

/-- 'laws.FnExactBeamOf', WHERE WHAT IT READS IS OF BULK AT MOST 1048576: true; the input reads as it did. -/
def fnExactBeamOfUptoRow : OpenClaim := { program := "ytiicfobjpklmkaa", sum := "ae1b2b8fd4836d55098a1d1819278d59c52d1676b01926236ae7d8c56b8eb297", func := "loop.example/radiointerferometer/laws.FnExactBeamOf", spec := "fnExactBeamOf", apart := false, narrowed := true }
def FnExactBeamOfUptoSaid : Prop := fnExactBeamOfUptoRow.holds Try.pinned (OpenSpec.upto fnExactBeamOfSpec)

/-- 'laws.FnWeightBeam', WHERE WHAT IT READS IS OF BULK AT MOST 1048576: true; the input reads as it did. -/
def fnWeightBeamUptoRow : OpenClaim := { program := "ytiicfobjpklmkaa", sum := "ae1b2b8fd4836d55098a1d1819278d59c52d1676b01926236ae7d8c56b8eb297", func := "loop.example/radiointerferometer/laws.FnWeightBeam", spec := "fnWeightBeam", apart := false, narrowed := true }
def FnWeightBeamUptoSaid : Prop := fnWeightBeamUptoRow.holds Try.pinned (OpenSpec.upto fnWeightBeamSpec)

/-- 'laws.FnWeightBeamTransform', WHERE WHAT IT READS IS OF BULK AT MOST 1048576: true; the input reads as it did. -/
def fnWeightBeamTransformUptoRow : OpenClaim := { program := "ytiicfobjpklmkaa", sum := "ae1b2b8fd4836d55098a1d1819278d59c52d1676b01926236ae7d8c56b8eb297", func := "loop.example/radiointerferometer/laws.FnWeightBeamTransform", spec := "fnWeightBeamTransform", apart := false, narrowed := true }
def FnWeightBeamTransformUptoSaid : Prop := fnWeightBeamTransformUptoRow.holds Try.pinned (OpenSpec.upto fnWeightBeamTransformSpec)

/-- 'laws.FnUniform', WHERE WHAT IT READS IS OF BULK AT MOST 1048576: true; the input reads as it did. -/
def fnUniformUptoRow : OpenClaim := { program := "ytiicfobjpklmkaa", sum := "ae1b2b8fd4836d55098a1d1819278d59c52d1676b01926236ae7d8c56b8eb297", func := "loop.example/radiointerferometer/laws.FnUniform", spec := "fnUniform", apart := false, narrowed := true }
def FnUniformUptoSaid : Prop := fnUniformUptoRow.holds Try.pinned (OpenSpec.upto fnUniformSpec)

/-- 'laws.FnBeamSum', WHERE WHAT IT READS IS OF BULK AT MOST 1048576: true; the input reads as it did. -/
def fnBeamSumUptoRow : OpenClaim := { program := "ytiicfobjpklmkaa", sum := "ae1b2b8fd4836d55098a1d1819278d59c52d1676b01926236ae7d8c56b8eb297", func := "loop.example/radiointerferometer/laws.FnBeamSum", spec := "fnBeamSum", apart := false, narrowed := true }
def FnBeamSumUptoSaid : Prop := fnBeamSumUptoRow.holds Try.pinned (OpenSpec.upto fnBeamSumSpec)

/-- 'laws.FnBeamTransform', WHERE WHAT IT READS IS OF BULK AT MOST 1048576: true; the input reads as it did. -/
def fnBeamTransformUptoRow : OpenClaim := { program := "ytiicfobjpklmkaa", sum := "ae1b2b8fd4836d55098a1d1819278d59c52d1676b01926236ae7d8c56b8eb297", func := "loop.example/radiointerferometer/laws.FnBeamTransform", spec := "fnBeamTransform", apart := false, narrowed := true }
def FnBeamTransformUptoSaid : Prop := fnBeamTransformUptoRow.holds Try.pinned (OpenSpec.upto fnBeamTransformSpec)

end Rows
end Go.Proofs.Ytiicfobjpklmkaa
