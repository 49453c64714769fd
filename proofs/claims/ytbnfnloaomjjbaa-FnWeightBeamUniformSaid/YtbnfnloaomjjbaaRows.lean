/-
  No cell of these rows narrows 'for every input' (looked for: loops, veiled, ifaces, maps, wideKeys, modest, calm, conditions, laid).
  DERIVED. THE GIVEN ROWS OF THIS SEAT. 5 by the template 'for every input the law returns true; each argument reads behind the call as it read before'; 0 by the template 'total and deterministic' (their statements: YtbnfnloaomjjbaaTotals.lean).
  GIVEN WITH THE SEED: the statements are not yours to turn. If you find one false, say at which input.
  Laid BY PROGRAM, IN A SANDBOX (cutbox-rows.mjs): the forced cells as the released guide's own fill.sh prints them over the translation 1d67e1714b61e88c… (all of the seat's roots in one cut). By AI agents, Wed Nov 11 2026. No macro, syntax, notation, axiom, sorry.
-/
import Derived.Test.YtbnfnloaomjjbaaChecked
import GoSem.Claim
import GoSem.ClaimJoined
import GoSem.ClaimMapViews
import Derived.JoinedTies
import Derived.KernelRfl
namespace Go.Proofs.Ytbnfnloaomjjbaa
/- THE CELL 'sum', in the pinned program and in every row, IS THE sha256 OF THE DUMP (.gsa) THAT YtbnfnloaomjjbaaProg.lean LOADS. Nothing in Lean hashes anything: it is a label: what it is worth is what the hold of that sum in a sandbox is worth. -/
noncomputable def Try.pinned : Pinned := { name := "ytbnfnloaomjjbaa", sum := "1d67e1714b61e88c5cbd975fdef924ea5fec76c845262c92e23f1b3460306513", checked := Try.checked }
namespace Rows
def none {H : Type} : Left H := { results := [], args := [] }

/-- 'laws.FnBeamTransform': WHATEVER THE INPUT: true; the input reads as it did. -/
def fnBeamTransformSpec : ChangeSpec := { name := "fnBeamTransform", fn := fun _ => fun
  | [d] => { results := [.lit (.bool true)], args := [d] }
  | _ => none }
def fnBeamTransformRow : OpenClaim := { program := "ytbnfnloaomjjbaa", sum := "1d67e1714b61e88c5cbd975fdef924ea5fec76c845262c92e23f1b3460306513", func := "loop.example/radiointerferometer/laws.FnBeamTransform", spec := "fnBeamTransform", apart := false }
def FnBeamTransformSaid : Prop := fnBeamTransformRow.holds Try.pinned (OpenSpec.ofChange fnBeamTransformSpec)

/-- ITS FALSE NEIGHBOUR: 'it returns false'. Refute it at one input. -/
def fnBeamTransformWrong : ChangeSpec := { name := "fnBeamTransform", fn := fun _ => fun
  | [d] => { results := [.lit (.bool false)], args := [d] }
  | _ => none }
def FnBeamTransformWrongFalsely : Prop := fnBeamTransformRow.holds Try.pinned (OpenSpec.ofChange fnBeamTransformWrong)

/-- 'laws.FnUniform': WHATEVER THE INPUT: true; the input reads as it did. -/
def fnUniformSpec : ChangeSpec := { name := "fnUniform", fn := fun _ => fun
  | [d] => { results := [.lit (.bool true)], args := [d] }
  | _ => none }
def fnUniformRow : OpenClaim := { program := "ytbnfnloaomjjbaa", sum := "1d67e1714b61e88c5cbd975fdef924ea5fec76c845262c92e23f1b3460306513", func := "loop.example/radiointerferometer/laws.FnUniform", spec := "fnUniform", apart := false }
def FnUniformSaid : Prop := fnUniformRow.holds Try.pinned (OpenSpec.ofChange fnUniformSpec)

/-- ITS FALSE NEIGHBOUR: 'it returns false'. Refute it at one input. -/
def fnUniformWrong : ChangeSpec := { name := "fnUniform", fn := fun _ => fun
  | [d] => { results := [.lit (.bool false)], args := [d] }
  | _ => none }
def FnUniformWrongFalsely : Prop := fnUniformRow.holds Try.pinned (OpenSpec.ofChange fnUniformWrong)

/-- 'laws.FnBeamJoin': WHATEVER THE INPUT: true; the input reads as it did. -/
def fnBeamJoinSpec : ChangeSpec := { name := "fnBeamJoin", fn := fun _ => fun
  | [d] => { results := [.lit (.bool true)], args := [d] }
  | _ => none }
def fnBeamJoinRow : OpenClaim := { program := "ytbnfnloaomjjbaa", sum := "1d67e1714b61e88c5cbd975fdef924ea5fec76c845262c92e23f1b3460306513", func := "loop.example/radiointerferometer/laws.FnBeamJoin", spec := "fnBeamJoin", apart := false }
def FnBeamJoinSaid : Prop := fnBeamJoinRow.holds Try.pinned (OpenSpec.ofChange fnBeamJoinSpec)

/-- ITS FALSE NEIGHBOUR: 'it returns false'. Refute it at one input. -/
def fnBeamJoinWrong : ChangeSpec := { name := "fnBeamJoin", fn := fun _ => fun
  | [d] => { results := [.lit (.bool false)], args := [d] }
  | _ => none }
def FnBeamJoinWrongFalsely : Prop := fnBeamJoinRow.holds Try.pinned (OpenSpec.ofChange fnBeamJoinWrong)

/-- 'laws.FnWeightBeamUniform': WHATEVER THE INPUT: true; the input reads as it did. -/
def fnWeightBeamUniformSpec : ChangeSpec := { name := "fnWeightBeamUniform", fn := fun _ => fun
  | [d] => { results := [.lit (.bool true)], args := [d] }
  | _ => none }
def fnWeightBeamUniformRow : OpenClaim := { program := "ytbnfnloaomjjbaa", sum := "1d67e1714b61e88c5cbd975fdef924ea5fec76c845262c92e23f1b3460306513", func := "loop.example/radiointerferometer/laws.FnWeightBeamUniform", spec := "fnWeightBeamUniform", apart := false }
def FnWeightBeamUniformSaid : Prop := fnWeightBeamUniformRow.holds Try.pinned (OpenSpec.ofChange fnWeightBeamUniformSpec)

/-- ITS FALSE NEIGHBOUR: 'it returns false'. Refute it at one input. -/
def fnWeightBeamUniformWrong : ChangeSpec := { name := "fnWeightBeamUniform", fn := fun _ => fun
  | [d] => { results := [.lit (.bool false)], args := [d] }
  | _ => none }
def FnWeightBeamUniformWrongFalsely : Prop := fnWeightBeamUniformRow.holds Try.pinned (OpenSpec.ofChange fnWeightBeamUniformWrong)

/-- 'laws.FnBeamTurn': WHATEVER THE INPUT: true; the input reads as it did. -/
def fnBeamTurnSpec : ChangeSpec := { name := "fnBeamTurn", fn := fun _ => fun
  | [d] => { results := [.lit (.bool true)], args := [d] }
  | _ => none }
def fnBeamTurnRow : OpenClaim := { program := "ytbnfnloaomjjbaa", sum := "1d67e1714b61e88c5cbd975fdef924ea5fec76c845262c92e23f1b3460306513", func := "loop.example/radiointerferometer/laws.FnBeamTurn", spec := "fnBeamTurn", apart := false }
def FnBeamTurnSaid : Prop := fnBeamTurnRow.holds Try.pinned (OpenSpec.ofChange fnBeamTurnSpec)

/-- ITS FALSE NEIGHBOUR: 'it returns false'. Refute it at one input. -/
def fnBeamTurnWrong : ChangeSpec := { name := "fnBeamTurn", fn := fun _ => fun
  | [d] => { results := [.lit (.bool false)], args := [d] }
  | _ => none }
def FnBeamTurnWrongFalsely : Prop := fnBeamTurnRow.holds Try.pinned (OpenSpec.ofChange fnBeamTurnWrong)

/- THE SECOND FORM. 'bulk': how many values and letters a reading holds, each counted each time it is reached (what is shared counts as often as it is met; a slice's spare places count too). A statement '..UptoSaid' is the law's where the arguments, and the package variables that the reading takes, are together of bulk at most 1048576: NARROWER than '..Said'. Prove '..Said' where nothing that the law and all that it calls make is longer than what came in: it says more and counts as full. Else prove '..UptoSaid'. A law counts once. -/
mutual
def uptoBulk {H : Type} : DataW H → Nat
  | .lit (.string bytes) => bytes.length + 1
  | .lit _ => 1
  | .nil => 1
  | .ptr d => uptoBulk d + 1
  | .slice elems spare => uptoBulkAll elems + uptoBulkAll spare + 1
  | .agg parts => uptoBulkAll parts + 1
  | .iface _ d => uptoBulk d + 1
  | .map entries => uptoBulkEntries entries + 1
  | .held _ => 1
def uptoBulkAll {H : Type} : List (DataW H) → Nat
  | [] => 0
  | d :: r => uptoBulk d + uptoBulkAll r
def uptoBulkEntries {H : Type} : List (Lit × DataW H) → Nat
  | [] => 0
  | x :: r => uptoBulkEntry x + uptoBulkEntries r
def uptoBulkEntry {H : Type} : Lit × DataW H → Nat
  | (.string bytes, d) => bytes.length + uptoBulk d + 1
  | (_, d) => uptoBulk d + 1
 end
def uptoSmall : (H : Type) → List (DataW H) → Bool := fun _ ds => decide (uptoBulkAll ds ≤ 1048576)
def OpenSpec.upto (s : _root_.Go.ChangeSpec) : _root_.Go.OpenSpec := { _root_.Go.OpenSpec.ofChange s with cond := some uptoSmall }

/-- 'laws.FnBeamTransform', WHERE WHAT IT READS IS OF BULK AT MOST 1048576: true; the input reads as it did. -/
def fnBeamTransformUptoRow : OpenClaim := { program := "ytbnfnloaomjjbaa", sum := "1d67e1714b61e88c5cbd975fdef924ea5fec76c845262c92e23f1b3460306513", func := "loop.example/radiointerferometer/laws.FnBeamTransform", spec := "fnBeamTransform", apart := false, narrowed := true }
def FnBeamTransformUptoSaid : Prop := fnBeamTransformUptoRow.holds Try.pinned (OpenSpec.upto fnBeamTransformSpec)

/-- 'laws.FnUniform', WHERE WHAT IT READS IS OF BULK AT MOST 1048576: true; the input reads as it did. -/
def fnUniformUptoRow : OpenClaim := { program := "ytbnfnloaomjjbaa", sum := "1d67e1714b61e88c5cbd975fdef924ea5fec76c845262c92e23f1b3460306513", func := "loop.example/radiointerferometer/laws.FnUniform", spec := "fnUniform", apart := false, narrowed := true }
def FnUniformUptoSaid : Prop := fnUniformUptoRow.holds Try.pinned (OpenSpec.upto fnUniformSpec)

/-- 'laws.FnBeamJoin', WHERE WHAT IT READS IS OF BULK AT MOST 1048576: true; the input reads as it did. -/
def fnBeamJoinUptoRow : OpenClaim := { program := "ytbnfnloaomjjbaa", sum := "1d67e1714b61e88c5cbd975fdef924ea5fec76c845262c92e23f1b3460306513", func := "loop.example/radiointerferometer/laws.FnBeamJoin", spec := "fnBeamJoin", apart := false, narrowed := true }
def FnBeamJoinUptoSaid : Prop := fnBeamJoinUptoRow.holds Try.pinned (OpenSpec.upto fnBeamJoinSpec)

/-- 'laws.FnWeightBeamUniform', WHERE WHAT IT READS IS OF BULK AT MOST 1048576: true; the input reads as it did. -/
def fnWeightBeamUniformUptoRow : OpenClaim := { program := "ytbnfnloaomjjbaa", sum := "1d67e1714b61e88c5cbd975fdef924ea5fec76c845262c92e23f1b3460306513", func := "loop.example/radiointerferometer/laws.FnWeightBeamUniform", spec := "fnWeightBeamUniform", apart := false, narrowed := true }
def FnWeightBeamUniformUptoSaid : Prop := fnWeightBeamUniformUptoRow.holds Try.pinned (OpenSpec.upto fnWeightBeamUniformSpec)

/-- 'laws.FnBeamTurn', WHERE WHAT IT READS IS OF BULK AT MOST 1048576: true; the input reads as it did. -/
def fnBeamTurnUptoRow : OpenClaim := { program := "ytbnfnloaomjjbaa", sum := "1d67e1714b61e88c5cbd975fdef924ea5fec76c845262c92e23f1b3460306513", func := "loop.example/radiointerferometer/laws.FnBeamTurn", spec := "fnBeamTurn", apart := false, narrowed := true }
def FnBeamTurnUptoSaid : Prop := fnBeamTurnUptoRow.holds Try.pinned (OpenSpec.upto fnBeamTurnSpec)

end Rows
end Go.Proofs.Ytbnfnloaomjjbaa
