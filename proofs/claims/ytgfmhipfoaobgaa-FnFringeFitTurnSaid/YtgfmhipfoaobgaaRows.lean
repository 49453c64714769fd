/-
  No cell of these rows narrows 'for every input' (looked for: loops, veiled, ifaces, maps, wideKeys, modest, calm, conditions, laid).
  DERIVED. THE GIVEN ROWS OF THIS SEAT. 18 by the template 'for every input the law returns true; each argument reads behind the call as it read before'; 0 by the template 'total and deterministic' (their statements: YtgfmhipfoaobgaaTotals.lean).
  GIVEN WITH THE SEED: the statements are not yours to turn. If you find one false, say at which input.
  Laid BY PROGRAM, IN A SANDBOX (cutbox-rows.mjs): the forced cells as the released guide's own fill.sh prints them over the translation f5951a784bfcd52b… (all of the seat's roots in one cut). By AI agents, Wed Nov 11 2026. No macro, syntax, notation, axiom, sorry.
-/
import Derived.Test.YtgfmhipfoaobgaaChecked
import GoSem.Claim
import GoSem.ClaimJoined
import GoSem.ClaimMapViews
import Derived.JoinedTies
import Derived.KernelRfl
namespace Go.Proofs.Ytgfmhipfoaobgaa
/- THE CELL 'sum', in the pinned program and in every row, IS THE sha256 OF THE DUMP (.gsa) THAT YtgfmhipfoaobgaaProg.lean LOADS. Nothing in Lean hashes anything: it is a label: what it is worth is what the hold of that sum in a sandbox is worth. -/
noncomputable def Try.pinned : Pinned := { name := "ytgfmhipfoaobgaa", sum := "f5951a784bfcd52b4cf581d0897bd91844e1bce97f8ccf89a67ead51611b2dab", checked := Try.checked }
namespace Rows
def none {H : Type} : Left H := { results := [], args := [] }

/-- 'laws.FnExactFringeOf': WHATEVER THE INPUT: true; the input reads as it did. -/
def fnExactFringeOfSpec : ChangeSpec := { name := "fnExactFringeOf", fn := fun _ => fun
  | [d1, d2, d3, d4, d5] => { results := [.lit (.bool true)], args := [d1, d2, d3, d4, d5] }
  | _ => none }
def fnExactFringeOfRow : OpenClaim := { program := "ytgfmhipfoaobgaa", sum := "f5951a784bfcd52b4cf581d0897bd91844e1bce97f8ccf89a67ead51611b2dab", func := "loop.example/radiointerferometer/laws.FnExactFringeOf", spec := "fnExactFringeOf", apart := false }
def FnExactFringeOfSaid : Prop := fnExactFringeOfRow.holds Try.pinned (OpenSpec.ofChange fnExactFringeOfSpec)

/-- ITS FALSE NEIGHBOUR: 'it returns false'. Refute it at one input. -/
def fnExactFringeOfWrong : ChangeSpec := { name := "fnExactFringeOf", fn := fun _ => fun
  | [d1, d2, d3, d4, d5] => { results := [.lit (.bool false)], args := [d1, d2, d3, d4, d5] }
  | _ => none }
def FnExactFringeOfWrongFalsely : Prop := fnExactFringeOfRow.holds Try.pinned (OpenSpec.ofChange fnExactFringeOfWrong)

/-- 'laws.FnExactFringeValid': WHATEVER THE INPUT: true; the input reads as it did. -/
def fnExactFringeValidSpec : ChangeSpec := { name := "fnExactFringeValid", fn := fun _ => fun
  | [d] => { results := [.lit (.bool true)], args := [d] }
  | _ => none }
def fnExactFringeValidRow : OpenClaim := { program := "ytgfmhipfoaobgaa", sum := "f5951a784bfcd52b4cf581d0897bd91844e1bce97f8ccf89a67ead51611b2dab", func := "loop.example/radiointerferometer/laws.FnExactFringeValid", spec := "fnExactFringeValid", apart := false }
def FnExactFringeValidSaid : Prop := fnExactFringeValidRow.holds Try.pinned (OpenSpec.ofChange fnExactFringeValidSpec)

/-- ITS FALSE NEIGHBOUR: 'it returns false'. Refute it at one input. -/
def fnExactFringeValidWrong : ChangeSpec := { name := "fnExactFringeValid", fn := fun _ => fun
  | [d] => { results := [.lit (.bool false)], args := [d] }
  | _ => none }
def FnExactFringeValidWrongFalsely : Prop := fnExactFringeValidRow.holds Try.pinned (OpenSpec.ofChange fnExactFringeValidWrong)

/-- 'laws.FnFringe': WHATEVER THE INPUT: true; the input reads as it did. -/
def fnFringeSpec : ChangeSpec := { name := "fnFringe", fn := fun _ => fun
  | [d1, d2] => { results := [.lit (.bool true)], args := [d1, d2] }
  | _ => none }
def fnFringeRow : OpenClaim := { program := "ytgfmhipfoaobgaa", sum := "f5951a784bfcd52b4cf581d0897bd91844e1bce97f8ccf89a67ead51611b2dab", func := "loop.example/radiointerferometer/laws.FnFringe", spec := "fnFringe", apart := false }
def FnFringeSaid : Prop := fnFringeRow.holds Try.pinned (OpenSpec.ofChange fnFringeSpec)

/-- ITS FALSE NEIGHBOUR: 'it returns false'. Refute it at one input. -/
def fnFringeWrong : ChangeSpec := { name := "fnFringe", fn := fun _ => fun
  | [d1, d2] => { results := [.lit (.bool false)], args := [d1, d2] }
  | _ => none }
def FnFringeWrongFalsely : Prop := fnFringeRow.holds Try.pinned (OpenSpec.ofChange fnFringeWrong)

/-- 'laws.FnFringeOf': WHATEVER THE INPUT: true; the input reads as it did. -/
def fnFringeOfSpec : ChangeSpec := { name := "fnFringeOf", fn := fun _ => fun
  | [d] => { results := [.lit (.bool true)], args := [d] }
  | _ => none }
def fnFringeOfRow : OpenClaim := { program := "ytgfmhipfoaobgaa", sum := "f5951a784bfcd52b4cf581d0897bd91844e1bce97f8ccf89a67ead51611b2dab", func := "loop.example/radiointerferometer/laws.FnFringeOf", spec := "fnFringeOf", apart := false }
def FnFringeOfSaid : Prop := fnFringeOfRow.holds Try.pinned (OpenSpec.ofChange fnFringeOfSpec)

/-- ITS FALSE NEIGHBOUR: 'it returns false'. Refute it at one input. -/
def fnFringeOfWrong : ChangeSpec := { name := "fnFringeOf", fn := fun _ => fun
  | [d] => { results := [.lit (.bool false)], args := [d] }
  | _ => none }
def FnFringeOfWrongFalsely : Prop := fnFringeOfRow.holds Try.pinned (OpenSpec.ofChange fnFringeOfWrong)

/-- 'laws.FnFringeTurnOf': WHATEVER THE INPUT: true; the input reads as it did. -/
def fnFringeTurnOfSpec : ChangeSpec := { name := "fnFringeTurnOf", fn := fun _ => fun
  | [d] => { results := [.lit (.bool true)], args := [d] }
  | _ => none }
def fnFringeTurnOfRow : OpenClaim := { program := "ytgfmhipfoaobgaa", sum := "f5951a784bfcd52b4cf581d0897bd91844e1bce97f8ccf89a67ead51611b2dab", func := "loop.example/radiointerferometer/laws.FnFringeTurnOf", spec := "fnFringeTurnOf", apart := false }
def FnFringeTurnOfSaid : Prop := fnFringeTurnOfRow.holds Try.pinned (OpenSpec.ofChange fnFringeTurnOfSpec)

/-- ITS FALSE NEIGHBOUR: 'it returns false'. Refute it at one input. -/
def fnFringeTurnOfWrong : ChangeSpec := { name := "fnFringeTurnOf", fn := fun _ => fun
  | [d] => { results := [.lit (.bool false)], args := [d] }
  | _ => none }
def FnFringeTurnOfWrongFalsely : Prop := fnFringeTurnOfRow.holds Try.pinned (OpenSpec.ofChange fnFringeTurnOfWrong)

/-- 'laws.FnExactFringeScore': WHATEVER THE INPUT: true; the input reads as it did. -/
def fnExactFringeScoreSpec : ChangeSpec := { name := "fnExactFringeScore", fn := fun _ => fun
  | [d1, d2, d3, d4] => { results := [.lit (.bool true)], args := [d1, d2, d3, d4] }
  | _ => none }
def fnExactFringeScoreRow : OpenClaim := { program := "ytgfmhipfoaobgaa", sum := "f5951a784bfcd52b4cf581d0897bd91844e1bce97f8ccf89a67ead51611b2dab", func := "loop.example/radiointerferometer/laws.FnExactFringeScore", spec := "fnExactFringeScore", apart := false }
def FnExactFringeScoreSaid : Prop := fnExactFringeScoreRow.holds Try.pinned (OpenSpec.ofChange fnExactFringeScoreSpec)

/-- ITS FALSE NEIGHBOUR: 'it returns false'. Refute it at one input. -/
def fnExactFringeScoreWrong : ChangeSpec := { name := "fnExactFringeScore", fn := fun _ => fun
  | [d1, d2, d3, d4] => { results := [.lit (.bool false)], args := [d1, d2, d3, d4] }
  | _ => none }
def FnExactFringeScoreWrongFalsely : Prop := fnExactFringeScoreRow.holds Try.pinned (OpenSpec.ofChange fnExactFringeScoreWrong)

/-- 'laws.FnFringeFitWrong': WHATEVER THE INPUT: true; the input reads as it did. -/
def fnFringeFitWrongSpec : ChangeSpec := { name := "fnFringeFitWrong", fn := fun _ => fun
  | [d1, d2] => { results := [.lit (.bool true)], args := [d1, d2] }
  | _ => none }
def fnFringeFitWrongRow : OpenClaim := { program := "ytgfmhipfoaobgaa", sum := "f5951a784bfcd52b4cf581d0897bd91844e1bce97f8ccf89a67ead51611b2dab", func := "loop.example/radiointerferometer/laws.FnFringeFitWrong", spec := "fnFringeFitWrong", apart := false }
def FnFringeFitWrongSaid : Prop := fnFringeFitWrongRow.holds Try.pinned (OpenSpec.ofChange fnFringeFitWrongSpec)

/-- ITS FALSE NEIGHBOUR: 'it returns false'. Refute it at one input. -/
def fnFringeFitWrongWrong : ChangeSpec := { name := "fnFringeFitWrong", fn := fun _ => fun
  | [d1, d2] => { results := [.lit (.bool false)], args := [d1, d2] }
  | _ => none }
def FnFringeFitWrongWrongFalsely : Prop := fnFringeFitWrongRow.holds Try.pinned (OpenSpec.ofChange fnFringeFitWrongWrong)

/-- 'laws.FnFringeOfFit': WHATEVER THE INPUT: true; the input reads as it did. -/
def fnFringeOfFitSpec : ChangeSpec := { name := "fnFringeOfFit", fn := fun _ => fun
  | [d] => { results := [.lit (.bool true)], args := [d] }
  | _ => none }
def fnFringeOfFitRow : OpenClaim := { program := "ytgfmhipfoaobgaa", sum := "f5951a784bfcd52b4cf581d0897bd91844e1bce97f8ccf89a67ead51611b2dab", func := "loop.example/radiointerferometer/laws.FnFringeOfFit", spec := "fnFringeOfFit", apart := false }
def FnFringeOfFitSaid : Prop := fnFringeOfFitRow.holds Try.pinned (OpenSpec.ofChange fnFringeOfFitSpec)

/-- ITS FALSE NEIGHBOUR: 'it returns false'. Refute it at one input. -/
def fnFringeOfFitWrong : ChangeSpec := { name := "fnFringeOfFit", fn := fun _ => fun
  | [d] => { results := [.lit (.bool false)], args := [d] }
  | _ => none }
def FnFringeOfFitWrongFalsely : Prop := fnFringeOfFitRow.holds Try.pinned (OpenSpec.ofChange fnFringeOfFitWrong)

/-- 'laws.FnFringeOfScore': WHATEVER THE INPUT: true; the input reads as it did. -/
def fnFringeOfScoreSpec : ChangeSpec := { name := "fnFringeOfScore", fn := fun _ => fun
  | [d] => { results := [.lit (.bool true)], args := [d] }
  | _ => none }
def fnFringeOfScoreRow : OpenClaim := { program := "ytgfmhipfoaobgaa", sum := "f5951a784bfcd52b4cf581d0897bd91844e1bce97f8ccf89a67ead51611b2dab", func := "loop.example/radiointerferometer/laws.FnFringeOfScore", spec := "fnFringeOfScore", apart := false }
def FnFringeOfScoreSaid : Prop := fnFringeOfScoreRow.holds Try.pinned (OpenSpec.ofChange fnFringeOfScoreSpec)

/-- ITS FALSE NEIGHBOUR: 'it returns false'. Refute it at one input. -/
def fnFringeOfScoreWrong : ChangeSpec := { name := "fnFringeOfScore", fn := fun _ => fun
  | [d] => { results := [.lit (.bool false)], args := [d] }
  | _ => none }
def FnFringeOfScoreWrongFalsely : Prop := fnFringeOfScoreRow.holds Try.pinned (OpenSpec.ofChange fnFringeOfScoreWrong)

/-- 'laws.FnFringeScore': WHATEVER THE INPUT: true; the input reads as it did. -/
def fnFringeScoreSpec : ChangeSpec := { name := "fnFringeScore", fn := fun _ => fun
  | [d] => { results := [.lit (.bool true)], args := [d] }
  | _ => none }
def fnFringeScoreRow : OpenClaim := { program := "ytgfmhipfoaobgaa", sum := "f5951a784bfcd52b4cf581d0897bd91844e1bce97f8ccf89a67ead51611b2dab", func := "loop.example/radiointerferometer/laws.FnFringeScore", spec := "fnFringeScore", apart := false }
def FnFringeScoreSaid : Prop := fnFringeScoreRow.holds Try.pinned (OpenSpec.ofChange fnFringeScoreSpec)

/-- ITS FALSE NEIGHBOUR: 'it returns false'. Refute it at one input. -/
def fnFringeScoreWrong : ChangeSpec := { name := "fnFringeScore", fn := fun _ => fun
  | [d] => { results := [.lit (.bool false)], args := [d] }
  | _ => none }
def FnFringeScoreWrongFalsely : Prop := fnFringeScoreRow.holds Try.pinned (OpenSpec.ofChange fnFringeScoreWrong)

/-- 'laws.FnFringeScoreTurn': WHATEVER THE INPUT: true; the input reads as it did. -/
def fnFringeScoreTurnSpec : ChangeSpec := { name := "fnFringeScoreTurn", fn := fun _ => fun
  | [d] => { results := [.lit (.bool true)], args := [d] }
  | _ => none }
def fnFringeScoreTurnRow : OpenClaim := { program := "ytgfmhipfoaobgaa", sum := "f5951a784bfcd52b4cf581d0897bd91844e1bce97f8ccf89a67ead51611b2dab", func := "loop.example/radiointerferometer/laws.FnFringeScoreTurn", spec := "fnFringeScoreTurn", apart := false }
def FnFringeScoreTurnSaid : Prop := fnFringeScoreTurnRow.holds Try.pinned (OpenSpec.ofChange fnFringeScoreTurnSpec)

/-- ITS FALSE NEIGHBOUR: 'it returns false'. Refute it at one input. -/
def fnFringeScoreTurnWrong : ChangeSpec := { name := "fnFringeScoreTurn", fn := fun _ => fun
  | [d] => { results := [.lit (.bool false)], args := [d] }
  | _ => none }
def FnFringeScoreTurnWrongFalsely : Prop := fnFringeScoreTurnRow.holds Try.pinned (OpenSpec.ofChange fnFringeScoreTurnWrong)

/-- 'laws.FnExactFringeFit': WHATEVER THE INPUT: true; the input reads as it did. -/
def fnExactFringeFitSpec : ChangeSpec := { name := "fnExactFringeFit", fn := fun _ => fun
  | [d] => { results := [.lit (.bool true)], args := [d] }
  | _ => none }
def fnExactFringeFitRow : OpenClaim := { program := "ytgfmhipfoaobgaa", sum := "f5951a784bfcd52b4cf581d0897bd91844e1bce97f8ccf89a67ead51611b2dab", func := "loop.example/radiointerferometer/laws.FnExactFringeFit", spec := "fnExactFringeFit", apart := false }
def FnExactFringeFitSaid : Prop := fnExactFringeFitRow.holds Try.pinned (OpenSpec.ofChange fnExactFringeFitSpec)

/-- ITS FALSE NEIGHBOUR: 'it returns false'. Refute it at one input. -/
def fnExactFringeFitWrong : ChangeSpec := { name := "fnExactFringeFit", fn := fun _ => fun
  | [d] => { results := [.lit (.bool false)], args := [d] }
  | _ => none }
def FnExactFringeFitWrongFalsely : Prop := fnExactFringeFitRow.holds Try.pinned (OpenSpec.ofChange fnExactFringeFitWrong)

/-- 'laws.FnFringeFit': WHATEVER THE INPUT: true; the input reads as it did. -/
def fnFringeFitSpec : ChangeSpec := { name := "fnFringeFit", fn := fun _ => fun
  | [d] => { results := [.lit (.bool true)], args := [d] }
  | _ => none }
def fnFringeFitRow : OpenClaim := { program := "ytgfmhipfoaobgaa", sum := "f5951a784bfcd52b4cf581d0897bd91844e1bce97f8ccf89a67ead51611b2dab", func := "loop.example/radiointerferometer/laws.FnFringeFit", spec := "fnFringeFit", apart := false }
def FnFringeFitSaid : Prop := fnFringeFitRow.holds Try.pinned (OpenSpec.ofChange fnFringeFitSpec)

/-- ITS FALSE NEIGHBOUR: 'it returns false'. Refute it at one input. -/
def fnFringeFitWrong : ChangeSpec := { name := "fnFringeFit", fn := fun _ => fun
  | [d] => { results := [.lit (.bool false)], args := [d] }
  | _ => none }
def FnFringeFitWrongFalsely : Prop := fnFringeFitRow.holds Try.pinned (OpenSpec.ofChange fnFringeFitWrong)

/-- 'laws.FnFringeFitStart': WHATEVER THE INPUT: true; the input reads as it did. -/
def fnFringeFitStartSpec : ChangeSpec := { name := "fnFringeFitStart", fn := fun _ => fun
  | [d] => { results := [.lit (.bool true)], args := [d] }
  | _ => none }
def fnFringeFitStartRow : OpenClaim := { program := "ytgfmhipfoaobgaa", sum := "f5951a784bfcd52b4cf581d0897bd91844e1bce97f8ccf89a67ead51611b2dab", func := "loop.example/radiointerferometer/laws.FnFringeFitStart", spec := "fnFringeFitStart", apart := false }
def FnFringeFitStartSaid : Prop := fnFringeFitStartRow.holds Try.pinned (OpenSpec.ofChange fnFringeFitStartSpec)

/-- ITS FALSE NEIGHBOUR: 'it returns false'. Refute it at one input. -/
def fnFringeFitStartWrong : ChangeSpec := { name := "fnFringeFitStart", fn := fun _ => fun
  | [d] => { results := [.lit (.bool false)], args := [d] }
  | _ => none }
def FnFringeFitStartWrongFalsely : Prop := fnFringeFitStartRow.holds Try.pinned (OpenSpec.ofChange fnFringeFitStartWrong)

/-- 'laws.FnFringeFitTurn': WHATEVER THE INPUT: true; the input reads as it did. -/
def fnFringeFitTurnSpec : ChangeSpec := { name := "fnFringeFitTurn", fn := fun _ => fun
  | [d] => { results := [.lit (.bool true)], args := [d] }
  | _ => none }
def fnFringeFitTurnRow : OpenClaim := { program := "ytgfmhipfoaobgaa", sum := "f5951a784bfcd52b4cf581d0897bd91844e1bce97f8ccf89a67ead51611b2dab", func := "loop.example/radiointerferometer/laws.FnFringeFitTurn", spec := "fnFringeFitTurn", apart := false }
def FnFringeFitTurnSaid : Prop := fnFringeFitTurnRow.holds Try.pinned (OpenSpec.ofChange fnFringeFitTurnSpec)

/-- ITS FALSE NEIGHBOUR: 'it returns false'. Refute it at one input. -/
def fnFringeFitTurnWrong : ChangeSpec := { name := "fnFringeFitTurn", fn := fun _ => fun
  | [d] => { results := [.lit (.bool false)], args := [d] }
  | _ => none }
def FnFringeFitTurnWrongFalsely : Prop := fnFringeFitTurnRow.holds Try.pinned (OpenSpec.ofChange fnFringeFitTurnWrong)

/-- 'laws.FnExactFringeTurn': WHATEVER THE INPUT: true; the input reads as it did. -/
def fnExactFringeTurnSpec : ChangeSpec := { name := "fnExactFringeTurn", fn := fun _ => fun
  | [d1, d2, d3, d4] => { results := [.lit (.bool true)], args := [d1, d2, d3, d4] }
  | _ => none }
def fnExactFringeTurnRow : OpenClaim := { program := "ytgfmhipfoaobgaa", sum := "f5951a784bfcd52b4cf581d0897bd91844e1bce97f8ccf89a67ead51611b2dab", func := "loop.example/radiointerferometer/laws.FnExactFringeTurn", spec := "fnExactFringeTurn", apart := false }
def FnExactFringeTurnSaid : Prop := fnExactFringeTurnRow.holds Try.pinned (OpenSpec.ofChange fnExactFringeTurnSpec)

/-- ITS FALSE NEIGHBOUR: 'it returns false'. Refute it at one input. -/
def fnExactFringeTurnWrong : ChangeSpec := { name := "fnExactFringeTurn", fn := fun _ => fun
  | [d1, d2, d3, d4] => { results := [.lit (.bool false)], args := [d1, d2, d3, d4] }
  | _ => none }
def FnExactFringeTurnWrongFalsely : Prop := fnExactFringeTurnRow.holds Try.pinned (OpenSpec.ofChange fnExactFringeTurnWrong)

/-- 'laws.FnFringeTurnAdd': WHATEVER THE INPUT: true; the input reads as it did. -/
def fnFringeTurnAddSpec : ChangeSpec := { name := "fnFringeTurnAdd", fn := fun _ => fun
  | [d] => { results := [.lit (.bool true)], args := [d] }
  | _ => none }
def fnFringeTurnAddRow : OpenClaim := { program := "ytgfmhipfoaobgaa", sum := "f5951a784bfcd52b4cf581d0897bd91844e1bce97f8ccf89a67ead51611b2dab", func := "loop.example/radiointerferometer/laws.FnFringeTurnAdd", spec := "fnFringeTurnAdd", apart := false }
def FnFringeTurnAddSaid : Prop := fnFringeTurnAddRow.holds Try.pinned (OpenSpec.ofChange fnFringeTurnAddSpec)

/-- ITS FALSE NEIGHBOUR: 'it returns false'. Refute it at one input. -/
def fnFringeTurnAddWrong : ChangeSpec := { name := "fnFringeTurnAdd", fn := fun _ => fun
  | [d] => { results := [.lit (.bool false)], args := [d] }
  | _ => none }
def FnFringeTurnAddWrongFalsely : Prop := fnFringeTurnAddRow.holds Try.pinned (OpenSpec.ofChange fnFringeTurnAddWrong)

/-- 'laws.FnFringeTurn': WHATEVER THE INPUT: true; the input reads as it did. -/
def fnFringeTurnSpec : ChangeSpec := { name := "fnFringeTurn", fn := fun _ => fun
  | [d] => { results := [.lit (.bool true)], args := [d] }
  | _ => none }
def fnFringeTurnRow : OpenClaim := { program := "ytgfmhipfoaobgaa", sum := "f5951a784bfcd52b4cf581d0897bd91844e1bce97f8ccf89a67ead51611b2dab", func := "loop.example/radiointerferometer/laws.FnFringeTurn", spec := "fnFringeTurn", apart := false }
def FnFringeTurnSaid : Prop := fnFringeTurnRow.holds Try.pinned (OpenSpec.ofChange fnFringeTurnSpec)

/-- ITS FALSE NEIGHBOUR: 'it returns false'. Refute it at one input. -/
def fnFringeTurnWrong : ChangeSpec := { name := "fnFringeTurn", fn := fun _ => fun
  | [d] => { results := [.lit (.bool false)], args := [d] }
  | _ => none }
def FnFringeTurnWrongFalsely : Prop := fnFringeTurnRow.holds Try.pinned (OpenSpec.ofChange fnFringeTurnWrong)

/- THE SECOND FORM. 'bulk': how many values and letters a reading holds, each counted each time it is reached (what is shared counts as often as it is met; a slice's spare places count too). A statement '..UptoSaid' is the law's where the arguments, and the package variables that the reading takes, are together of bulk at most 1048576: NARROWER than '..Said'. Prove '..Said' where nothing that the law and all that it calls make is longer than what came in: it says more and counts as full. Else prove '..UptoSaid'. A law counts once. -/
mutual
def uptoBulk {H : Type} : DataW H → Nat
  | .lit (.string bytes) => bytes.length + 1
  | .lit _ => 1
  | .nil => 1
  | .ptr d => uptoBulk d + 1
  | .slice elems spare => uptoBulkAll elems + uptoBulkAll spare + 1
  | .agg parts => uptoBulkAll parts + 1
  | .iface _ d => uptoBulk d + 1
  | .map entries => uptoBulkEntries entries + 1
  | .held _ => 1
def uptoBulkAll {H : Type} : List (DataW H) → Nat
  | [] => 0
  | d :: r => uptoBulk d + uptoBulkAll r
def uptoBulkEntries {H : Type} : List (Lit × DataW H) → Nat
  | [] => 0
  | x :: r => uptoBulkEntry x + uptoBulkEntries r
def uptoBulkEntry {H : Type} : Lit × DataW H → Nat
  | (.string bytes, d) => bytes.length + uptoBulk d + 1
  | (_, d) => uptoBulk d + 1
 end
def uptoSmall : (H : Type) → List (DataW H) → Bool := fun _ ds => decide (uptoBulkAll ds ≤ 1048576)
def OpenSpec.upto (s : _root_.Go.ChangeSpec) : _root_.Go.OpenSpec := { _root_.Go.OpenSpec.ofChange s with cond := some uptoSmall }

/-- 'laws.FnExactFringeOf', WHERE WHAT IT READS IS OF BULK AT MOST 1048576: true; the input reads as it did. -/
def fnExactFringeOfUptoRow : OpenClaim := { program := "ytgfmhipfoaobgaa", sum := "f5951a784bfcd52b4cf581d0897bd91844e1bce97f8ccf89a67ead51611b2dab", func := "loop.example/radiointerferometer/laws.FnExactFringeOf", spec := "fnExactFringeOf", apart := false, narrowed := true }
def FnExactFringeOfUptoSaid : Prop := fnExactFringeOfUptoRow.holds Try.pinned (OpenSpec.upto fnExactFringeOfSpec)

/-- 'laws.FnExactFringeValid', WHERE WHAT IT READS IS OF BULK AT MOST 1048576: true; the input reads as it did. -/
def fnExactFringeValidUptoRow : OpenClaim := { program := "ytgfmhipfoaobgaa", sum := "f5951a784bfcd52b4cf581d0897bd91844e1bce97f8ccf89a67ead51611b2dab", func := "loop.example/radiointerferometer/laws.FnExactFringeValid", spec := "fnExactFringeValid", apart := false, narrowed := true }
def FnExactFringeValidUptoSaid : Prop := fnExactFringeValidUptoRow.holds Try.pinned (OpenSpec.upto fnExactFringeValidSpec)

/-- 'laws.FnFringe', WHERE WHAT IT READS IS OF BULK AT MOST 1048576: true; the input reads as it did. -/
def fnFringeUptoRow : OpenClaim := { program := "ytgfmhipfoaobgaa", sum := "f5951a784bfcd52b4cf581d0897bd91844e1bce97f8ccf89a67ead51611b2dab", func := "loop.example/radiointerferometer/laws.FnFringe", spec := "fnFringe", apart := false, narrowed := true }
def FnFringeUptoSaid : Prop := fnFringeUptoRow.holds Try.pinned (OpenSpec.upto fnFringeSpec)

/-- 'laws.FnFringeOf', WHERE WHAT IT READS IS OF BULK AT MOST 1048576: true; the input reads as it did. -/
def fnFringeOfUptoRow : OpenClaim := { program := "ytgfmhipfoaobgaa", sum := "f5951a784bfcd52b4cf581d0897bd91844e1bce97f8ccf89a67ead51611b2dab", func := "loop.example/radiointerferometer/laws.FnFringeOf", spec := "fnFringeOf", apart := false, narrowed := true }
def FnFringeOfUptoSaid : Prop := fnFringeOfUptoRow.holds Try.pinned (OpenSpec.upto fnFringeOfSpec)

/-- 'laws.FnFringeTurnOf', WHERE WHAT IT READS IS OF BULK AT MOST 1048576: true; the input reads as it did. -/
def fnFringeTurnOfUptoRow : OpenClaim := { program := "ytgfmhipfoaobgaa", sum := "f5951a784bfcd52b4cf581d0897bd91844e1bce97f8ccf89a67ead51611b2dab", func := "loop.example/radiointerferometer/laws.FnFringeTurnOf", spec := "fnFringeTurnOf", apart := false, narrowed := true }
def FnFringeTurnOfUptoSaid : Prop := fnFringeTurnOfUptoRow.holds Try.pinned (OpenSpec.upto fnFringeTurnOfSpec)

/-- 'laws.FnExactFringeScore', WHERE WHAT IT READS IS OF BULK AT MOST 1048576: true; the input reads as it did. -/
def fnExactFringeScoreUptoRow : OpenClaim := { program := "ytgfmhipfoaobgaa", sum := "f5951a784bfcd52b4cf581d0897bd91844e1bce97f8ccf89a67ead51611b2dab", func := "loop.example/radiointerferometer/laws.FnExactFringeScore", spec := "fnExactFringeScore", apart := false, narrowed := true }
def FnExactFringeScoreUptoSaid : Prop := fnExactFringeScoreUptoRow.holds Try.pinned (OpenSpec.upto fnExactFringeScoreSpec)

/-- 'laws.FnFringeFitWrong', WHERE WHAT IT READS IS OF BULK AT MOST 1048576: true; the input reads as it did. -/
def fnFringeFitWrongUptoRow : OpenClaim := { program := "ytgfmhipfoaobgaa", sum := "f5951a784bfcd52b4cf581d0897bd91844e1bce97f8ccf89a67ead51611b2dab", func := "loop.example/radiointerferometer/laws.FnFringeFitWrong", spec := "fnFringeFitWrong", apart := false, narrowed := true }
def FnFringeFitWrongUptoSaid : Prop := fnFringeFitWrongUptoRow.holds Try.pinned (OpenSpec.upto fnFringeFitWrongSpec)

/-- 'laws.FnFringeOfFit', WHERE WHAT IT READS IS OF BULK AT MOST 1048576: true; the input reads as it did. -/
def fnFringeOfFitUptoRow : OpenClaim := { program := "ytgfmhipfoaobgaa", sum := "f5951a784bfcd52b4cf581d0897bd91844e1bce97f8ccf89a67ead51611b2dab", func := "loop.example/radiointerferometer/laws.FnFringeOfFit", spec := "fnFringeOfFit", apart := false, narrowed := true }
def FnFringeOfFitUptoSaid : Prop := fnFringeOfFitUptoRow.holds Try.pinned (OpenSpec.upto fnFringeOfFitSpec)

/-- 'laws.FnFringeOfScore', WHERE WHAT IT READS IS OF BULK AT MOST 1048576: true; the input reads as it did. -/
def fnFringeOfScoreUptoRow : OpenClaim := { program := "ytgfmhipfoaobgaa", sum := "f5951a784bfcd52b4cf581d0897bd91844e1bce97f8ccf89a67ead51611b2dab", func := "loop.example/radiointerferometer/laws.FnFringeOfScore", spec := "fnFringeOfScore", apart := false, narrowed := true }
def FnFringeOfScoreUptoSaid : Prop := fnFringeOfScoreUptoRow.holds Try.pinned (OpenSpec.upto fnFringeOfScoreSpec)

/-- 'laws.FnFringeScore', WHERE WHAT IT READS IS OF BULK AT MOST 1048576: true; the input reads as it did. -/
def fnFringeScoreUptoRow : OpenClaim := { program := "ytgfmhipfoaobgaa", sum := "f5951a784bfcd52b4cf581d0897bd91844e1bce97f8ccf89a67ead51611b2dab", func := "loop.example/radiointerferometer/laws.FnFringeScore", spec := "fnFringeScore", apart := false, narrowed := true }
def FnFringeScoreUptoSaid : Prop := fnFringeScoreUptoRow.holds Try.pinned (OpenSpec.upto fnFringeScoreSpec)

/-- 'laws.FnFringeScoreTurn', WHERE WHAT IT READS IS OF BULK AT MOST 1048576: true; the input reads as it did. -/
def fnFringeScoreTurnUptoRow : OpenClaim := { program := "ytgfmhipfoaobgaa", sum := "f5951a784bfcd52b4cf581d0897bd91844e1bce97f8ccf89a67ead51611b2dab", func := "loop.example/radiointerferometer/laws.FnFringeScoreTurn", spec := "fnFringeScoreTurn", apart := false, narrowed := true }
def FnFringeScoreTurnUptoSaid : Prop := fnFringeScoreTurnUptoRow.holds Try.pinned (OpenSpec.upto fnFringeScoreTurnSpec)

/-- 'laws.FnExactFringeFit', WHERE WHAT IT READS IS OF BULK AT MOST 1048576: true; the input reads as it did. -/
def fnExactFringeFitUptoRow : OpenClaim := { program := "ytgfmhipfoaobgaa", sum := "f5951a784bfcd52b4cf581d0897bd91844e1bce97f8ccf89a67ead51611b2dab", func := "loop.example/radiointerferometer/laws.FnExactFringeFit", spec := "fnExactFringeFit", apart := false, narrowed := true }
def FnExactFringeFitUptoSaid : Prop := fnExactFringeFitUptoRow.holds Try.pinned (OpenSpec.upto fnExactFringeFitSpec)

/-- 'laws.FnFringeFit', WHERE WHAT IT READS IS OF BULK AT MOST 1048576: true; the input reads as it did. -/
def fnFringeFitUptoRow : OpenClaim := { program := "ytgfmhipfoaobgaa", sum := "f5951a784bfcd52b4cf581d0897bd91844e1bce97f8ccf89a67ead51611b2dab", func := "loop.example/radiointerferometer/laws.FnFringeFit", spec := "fnFringeFit", apart := false, narrowed := true }
def FnFringeFitUptoSaid : Prop := fnFringeFitUptoRow.holds Try.pinned (OpenSpec.upto fnFringeFitSpec)

/-- 'laws.FnFringeFitStart', WHERE WHAT IT READS IS OF BULK AT MOST 1048576: true; the input reads as it did. -/
def fnFringeFitStartUptoRow : OpenClaim := { program := "ytgfmhipfoaobgaa", sum := "f5951a784bfcd52b4cf581d0897bd91844e1bce97f8ccf89a67ead51611b2dab", func := "loop.example/radiointerferometer/laws.FnFringeFitStart", spec := "fnFringeFitStart", apart := false, narrowed := true }
def FnFringeFitStartUptoSaid : Prop := fnFringeFitStartUptoRow.holds Try.pinned (OpenSpec.upto fnFringeFitStartSpec)

/-- 'laws.FnFringeFitTurn', WHERE WHAT IT READS IS OF BULK AT MOST 1048576: true; the input reads as it did. -/
def fnFringeFitTurnUptoRow : OpenClaim := { program := "ytgfmhipfoaobgaa", sum := "f5951a784bfcd52b4cf581d0897bd91844e1bce97f8ccf89a67ead51611b2dab", func := "loop.example/radiointerferometer/laws.FnFringeFitTurn", spec := "fnFringeFitTurn", apart := false, narrowed := true }
def FnFringeFitTurnUptoSaid : Prop := fnFringeFitTurnUptoRow.holds Try.pinned (OpenSpec.upto fnFringeFitTurnSpec)

/-- 'laws.FnExactFringeTurn', WHERE WHAT IT READS IS OF BULK AT MOST 1048576: true; the input reads as it did. -/
def fnExactFringeTurnUptoRow : OpenClaim := { program := "ytgfmhipfoaobgaa", sum := "f5951a784bfcd52b4cf581d0897bd91844e1bce97f8ccf89a67ead51611b2dab", func := "loop.example/radiointerferometer/laws.FnExactFringeTurn", spec := "fnExactFringeTurn", apart := false, narrowed := true }
def FnExactFringeTurnUptoSaid : Prop := fnExactFringeTurnUptoRow.holds Try.pinned (OpenSpec.upto fnExactFringeTurnSpec)

/-- 'laws.FnFringeTurnAdd', WHERE WHAT IT READS IS OF BULK AT MOST 1048576: true; the input reads as it did. -/
def fnFringeTurnAddUptoRow : OpenClaim := { program := "ytgfmhipfoaobgaa", sum := "f5951a784bfcd52b4cf581d0897bd91844e1bce97f8ccf89a67ead51611b2dab", func := "loop.example/radiointerferometer/laws.FnFringeTurnAdd", spec := "fnFringeTurnAdd", apart := false, narrowed := true }
def FnFringeTurnAddUptoSaid : Prop := fnFringeTurnAddUptoRow.holds Try.pinned (OpenSpec.upto fnFringeTurnAddSpec)

/-- 'laws.FnFringeTurn', WHERE WHAT IT READS IS OF BULK AT MOST 1048576: true; the input reads as it did. -/
def fnFringeTurnUptoRow : OpenClaim := { program := "ytgfmhipfoaobgaa", sum := "f5951a784bfcd52b4cf581d0897bd91844e1bce97f8ccf89a67ead51611b2dab", func := "loop.example/radiointerferometer/laws.FnFringeTurn", spec := "fnFringeTurn", apart := false, narrowed := true }
def FnFringeTurnUptoSaid : Prop := fnFringeTurnUptoRow.holds Try.pinned (OpenSpec.upto fnFringeTurnSpec)

end Rows
end Go.Proofs.Ytgfmhipfoaobgaa
