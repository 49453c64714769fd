/-
  No cell of these rows narrows 'for every input' (looked for: loops, veiled, ifaces, maps, wideKeys, modest, calm, conditions, laid).
  DERIVED. THE GIVEN ROWS OF THIS SEAT. 12 by the template 'for every input the law returns true; each argument reads behind the call as it read before'; 0 by the template 'total and deterministic' (their statements: YtiibfjdjccofdaaTotals.lean).
  GIVEN WITH THE SEED: the statements are not yours to turn. If you find one false, say at which input.
  Laid BY PROGRAM, IN A SANDBOX (cutbox-rows.mjs): the forced cells as the released guide's own fill.sh prints them over the translation d88d8253ec8ecc23… (all of the seat's roots in one cut). By AI agents, Wed Nov 11 2026. No macro, syntax, notation, axiom, sorry.
-/
import Derived.Test.YtiibfjdjccofdaaChecked
import GoSem.Claim
import GoSem.ClaimJoined
import GoSem.ClaimMapViews
import Derived.JoinedTies
import Derived.KernelRfl
namespace Go.Proofs.Ytiibfjdjccofdaa
/- THE CELL 'sum', in the pinned program and in every row, IS THE sha256 OF THE DUMP (.gsa) THAT YtiibfjdjccofdaaProg.lean LOADS. Nothing in Lean hashes anything: it is a label: what it is worth is what the hold of that sum in a sandbox is worth. -/
noncomputable def Try.pinned : Pinned := { name := "ytiibfjdjccofdaa", sum := "d88d8253ec8ecc23d64b4a073dfae0e3d66b68034df3c3202f2f1ff40e26f62f", checked := Try.checked }
namespace Rows
def none {H : Type} : Left H := { results := [], args := [] }

/-- 'laws.FnScaleTwice': WHATEVER THE INPUT: true; the input reads as it did. -/
def fnScaleTwiceSpec : ChangeSpec := { name := "fnScaleTwice", fn := fun _ => fun
  | [d] => { results := [.lit (.bool true)], args := [d] }
  | _ => none }
def fnScaleTwiceRow : OpenClaim := { program := "ytiibfjdjccofdaa", sum := "d88d8253ec8ecc23d64b4a073dfae0e3d66b68034df3c3202f2f1ff40e26f62f", func := "loop.example/radiointerferometer/laws.FnScaleTwice", spec := "fnScaleTwice", unfollowed := true, recurses := true, apart := false }
def FnScaleTwiceSaid : Prop := fnScaleTwiceRow.holds Try.pinned (OpenSpec.ofChange fnScaleTwiceSpec)

/-- ITS FALSE NEIGHBOUR: 'it returns false'. Refute it at one input. -/
def fnScaleTwiceWrong : ChangeSpec := { name := "fnScaleTwice", fn := fun _ => fun
  | [d] => { results := [.lit (.bool false)], args := [d] }
  | _ => none }
def FnScaleTwiceWrongFalsely : Prop := fnScaleTwiceRow.holds Try.pinned (OpenSpec.ofChange fnScaleTwiceWrong)

/-- 'laws.FnExactTrackScale': WHATEVER THE INPUT: true; the input reads as it did. -/
def fnExactTrackScaleSpec : ChangeSpec := { name := "fnExactTrackScale", fn := fun _ => fun
  | [d1, d2] => { results := [.lit (.bool true)], args := [d1, d2] }
  | _ => none }
def fnExactTrackScaleRow : OpenClaim := { program := "ytiibfjdjccofdaa", sum := "d88d8253ec8ecc23d64b4a073dfae0e3d66b68034df3c3202f2f1ff40e26f62f", func := "loop.example/radiointerferometer/laws.FnExactTrackScale", spec := "fnExactTrackScale", unfollowed := true, recurses := true, apart := false }
def FnExactTrackScaleSaid : Prop := fnExactTrackScaleRow.holds Try.pinned (OpenSpec.ofChange fnExactTrackScaleSpec)

/-- ITS FALSE NEIGHBOUR: 'it returns false'. Refute it at one input. -/
def fnExactTrackScaleWrong : ChangeSpec := { name := "fnExactTrackScale", fn := fun _ => fun
  | [d1, d2] => { results := [.lit (.bool false)], args := [d1, d2] }
  | _ => none }
def FnExactTrackScaleWrongFalsely : Prop := fnExactTrackScaleRow.holds Try.pinned (OpenSpec.ofChange fnExactTrackScaleWrong)

/-- 'laws.FnExactWeightNatural': WHATEVER THE INPUT: true; the input reads as it did. -/
def fnExactWeightNaturalSpec : ChangeSpec := { name := "fnExactWeightNatural", fn := fun _ => fun
  | [d] => { results := [.lit (.bool true)], args := [d] }
  | _ => none }
def fnExactWeightNaturalRow : OpenClaim := { program := "ytiibfjdjccofdaa", sum := "d88d8253ec8ecc23d64b4a073dfae0e3d66b68034df3c3202f2f1ff40e26f62f", func := "loop.example/radiointerferometer/laws.FnExactWeightNatural", spec := "fnExactWeightNatural", unfollowed := true, recurses := true, apart := false }
def FnExactWeightNaturalSaid : Prop := fnExactWeightNaturalRow.holds Try.pinned (OpenSpec.ofChange fnExactWeightNaturalSpec)

/-- ITS FALSE NEIGHBOUR: 'it returns false'. Refute it at one input. -/
def fnExactWeightNaturalWrong : ChangeSpec := { name := "fnExactWeightNatural", fn := fun _ => fun
  | [d] => { results := [.lit (.bool false)], args := [d] }
  | _ => none }
def FnExactWeightNaturalWrongFalsely : Prop := fnExactWeightNaturalRow.holds Try.pinned (OpenSpec.ofChange fnExactWeightNaturalWrong)

/-- 'laws.FnScaleCells': WHATEVER THE INPUT: true; the input reads as it did. -/
def fnScaleCellsSpec : ChangeSpec := { name := "fnScaleCells", fn := fun _ => fun
  | [d] => { results := [.lit (.bool true)], args := [d] }
  | _ => none }
def fnScaleCellsRow : OpenClaim := { program := "ytiibfjdjccofdaa", sum := "d88d8253ec8ecc23d64b4a073dfae0e3d66b68034df3c3202f2f1ff40e26f62f", func := "loop.example/radiointerferometer/laws.FnScaleCells", spec := "fnScaleCells", unfollowed := true, recurses := true, apart := false }
def FnScaleCellsSaid : Prop := fnScaleCellsRow.holds Try.pinned (OpenSpec.ofChange fnScaleCellsSpec)

/-- ITS FALSE NEIGHBOUR: 'it returns false'. Refute it at one input. -/
def fnScaleCellsWrong : ChangeSpec := { name := "fnScaleCells", fn := fun _ => fun
  | [d] => { results := [.lit (.bool false)], args := [d] }
  | _ => none }
def FnScaleCellsWrongFalsely : Prop := fnScaleCellsRow.holds Try.pinned (OpenSpec.ofChange fnScaleCellsWrong)

/-- 'laws.FnExactCoverOf': WHATEVER THE INPUT: true; the input reads as it did. -/
def fnExactCoverOfSpec : ChangeSpec := { name := "fnExactCoverOf", fn := fun _ => fun
  | [d] => { results := [.lit (.bool true)], args := [d] }
  | _ => none }
def fnExactCoverOfRow : OpenClaim := { program := "ytiibfjdjccofdaa", sum := "d88d8253ec8ecc23d64b4a073dfae0e3d66b68034df3c3202f2f1ff40e26f62f", func := "loop.example/radiointerferometer/laws.FnExactCoverOf", spec := "fnExactCoverOf", unfollowed := true, recurses := true, apart := false }
def FnExactCoverOfSaid : Prop := fnExactCoverOfRow.holds Try.pinned (OpenSpec.ofChange fnExactCoverOfSpec)

/-- ITS FALSE NEIGHBOUR: 'it returns false'. Refute it at one input. -/
def fnExactCoverOfWrong : ChangeSpec := { name := "fnExactCoverOf", fn := fun _ => fun
  | [d] => { results := [.lit (.bool false)], args := [d] }
  | _ => none }
def FnExactCoverOfWrongFalsely : Prop := fnExactCoverOfRow.holds Try.pinned (OpenSpec.ofChange fnExactCoverOfWrong)

/-- 'laws.FnCoverOfWhy': WHATEVER THE INPUT: true; the input reads as it did. -/
def fnCoverOfWhySpec : ChangeSpec := { name := "fnCoverOfWhy", fn := fun _ => fun
  | [d] => { results := [.lit (.bool true)], args := [d] }
  | _ => none }
def fnCoverOfWhyRow : OpenClaim := { program := "ytiibfjdjccofdaa", sum := "d88d8253ec8ecc23d64b4a073dfae0e3d66b68034df3c3202f2f1ff40e26f62f", func := "loop.example/radiointerferometer/laws.FnCoverOfWhy", spec := "fnCoverOfWhy", unfollowed := true, recurses := true, apart := false }
def FnCoverOfWhySaid : Prop := fnCoverOfWhyRow.holds Try.pinned (OpenSpec.ofChange fnCoverOfWhySpec)

/-- ITS FALSE NEIGHBOUR: 'it returns false'. Refute it at one input. -/
def fnCoverOfWhyWrong : ChangeSpec := { name := "fnCoverOfWhy", fn := fun _ => fun
  | [d] => { results := [.lit (.bool false)], args := [d] }
  | _ => none }
def FnCoverOfWhyWrongFalsely : Prop := fnCoverOfWhyRow.holds Try.pinned (OpenSpec.ofChange fnCoverOfWhyWrong)

/-- 'laws.FnScaleOpposite': WHATEVER THE INPUT: true; the input reads as it did. -/
def fnScaleOppositeSpec : ChangeSpec := { name := "fnScaleOpposite", fn := fun _ => fun
  | [d] => { results := [.lit (.bool true)], args := [d] }
  | _ => none }
def fnScaleOppositeRow : OpenClaim := { program := "ytiibfjdjccofdaa", sum := "d88d8253ec8ecc23d64b4a073dfae0e3d66b68034df3c3202f2f1ff40e26f62f", func := "loop.example/radiointerferometer/laws.FnScaleOpposite", spec := "fnScaleOpposite", unfollowed := true, recurses := true, apart := false }
def FnScaleOppositeSaid : Prop := fnScaleOppositeRow.holds Try.pinned (OpenSpec.ofChange fnScaleOppositeSpec)

/-- ITS FALSE NEIGHBOUR: 'it returns false'. Refute it at one input. -/
def fnScaleOppositeWrong : ChangeSpec := { name := "fnScaleOpposite", fn := fun _ => fun
  | [d] => { results := [.lit (.bool false)], args := [d] }
  | _ => none }
def FnScaleOppositeWrongFalsely : Prop := fnScaleOppositeRow.holds Try.pinned (OpenSpec.ofChange fnScaleOppositeWrong)

/-- 'laws.FnScale': WHATEVER THE INPUT: true; the input reads as it did. -/
def fnScaleSpec : ChangeSpec := { name := "fnScale", fn := fun _ => fun
  | [d] => { results := [.lit (.bool true)], args := [d] }
  | _ => none }
def fnScaleRow : OpenClaim := { program := "ytiibfjdjccofdaa", sum := "d88d8253ec8ecc23d64b4a073dfae0e3d66b68034df3c3202f2f1ff40e26f62f", func := "loop.example/radiointerferometer/laws.FnScale", spec := "fnScale", unfollowed := true, recurses := true, apart := false }
def FnScaleSaid : Prop := fnScaleRow.holds Try.pinned (OpenSpec.ofChange fnScaleSpec)

/-- ITS FALSE NEIGHBOUR: 'it returns false'. Refute it at one input. -/
def fnScaleWrong : ChangeSpec := { name := "fnScale", fn := fun _ => fun
  | [d] => { results := [.lit (.bool false)], args := [d] }
  | _ => none }
def FnScaleWrongFalsely : Prop := fnScaleRow.holds Try.pinned (OpenSpec.ofChange fnScaleWrong)

/-- 'laws.FnCoverOfShift': WHATEVER THE INPUT: true; the input reads as it did. -/
def fnCoverOfShiftSpec : ChangeSpec := { name := "fnCoverOfShift", fn := fun _ => fun
  | [d] => { results := [.lit (.bool true)], args := [d] }
  | _ => none }
def fnCoverOfShiftRow : OpenClaim := { program := "ytiibfjdjccofdaa", sum := "d88d8253ec8ecc23d64b4a073dfae0e3d66b68034df3c3202f2f1ff40e26f62f", func := "loop.example/radiointerferometer/laws.FnCoverOfShift", spec := "fnCoverOfShift", unfollowed := true, recurses := true, apart := false }
def FnCoverOfShiftSaid : Prop := fnCoverOfShiftRow.holds Try.pinned (OpenSpec.ofChange fnCoverOfShiftSpec)

/-- ITS FALSE NEIGHBOUR: 'it returns false'. Refute it at one input. -/
def fnCoverOfShiftWrong : ChangeSpec := { name := "fnCoverOfShift", fn := fun _ => fun
  | [d] => { results := [.lit (.bool false)], args := [d] }
  | _ => none }
def FnCoverOfShiftWrongFalsely : Prop := fnCoverOfShiftRow.holds Try.pinned (OpenSpec.ofChange fnCoverOfShiftWrong)

/-- 'laws.FnCoverOfLess': WHATEVER THE INPUT: true; the input reads as it did. -/
def fnCoverOfLessSpec : ChangeSpec := { name := "fnCoverOfLess", fn := fun _ => fun
  | [d] => { results := [.lit (.bool true)], args := [d] }
  | _ => none }
def fnCoverOfLessRow : OpenClaim := { program := "ytiibfjdjccofdaa", sum := "d88d8253ec8ecc23d64b4a073dfae0e3d66b68034df3c3202f2f1ff40e26f62f", func := "loop.example/radiointerferometer/laws.FnCoverOfLess", spec := "fnCoverOfLess", unfollowed := true, recurses := true, apart := false }
def FnCoverOfLessSaid : Prop := fnCoverOfLessRow.holds Try.pinned (OpenSpec.ofChange fnCoverOfLessSpec)

/-- ITS FALSE NEIGHBOUR: 'it returns false'. Refute it at one input. -/
def fnCoverOfLessWrong : ChangeSpec := { name := "fnCoverOfLess", fn := fun _ => fun
  | [d] => { results := [.lit (.bool false)], args := [d] }
  | _ => none }
def FnCoverOfLessWrongFalsely : Prop := fnCoverOfLessRow.holds Try.pinned (OpenSpec.ofChange fnCoverOfLessWrong)

/-- 'laws.FnCoverOfTurn': WHATEVER THE INPUT: true; the input reads as it did. -/
def fnCoverOfTurnSpec : ChangeSpec := { name := "fnCoverOfTurn", fn := fun _ => fun
  | [d] => { results := [.lit (.bool true)], args := [d] }
  | _ => none }
def fnCoverOfTurnRow : OpenClaim := { program := "ytiibfjdjccofdaa", sum := "d88d8253ec8ecc23d64b4a073dfae0e3d66b68034df3c3202f2f1ff40e26f62f", func := "loop.example/radiointerferometer/laws.FnCoverOfTurn", spec := "fnCoverOfTurn", unfollowed := true, recurses := true, apart := false }
def FnCoverOfTurnSaid : Prop := fnCoverOfTurnRow.holds Try.pinned (OpenSpec.ofChange fnCoverOfTurnSpec)

/-- ITS FALSE NEIGHBOUR: 'it returns false'. Refute it at one input. -/
def fnCoverOfTurnWrong : ChangeSpec := { name := "fnCoverOfTurn", fn := fun _ => fun
  | [d] => { results := [.lit (.bool false)], args := [d] }
  | _ => none }
def FnCoverOfTurnWrongFalsely : Prop := fnCoverOfTurnRow.holds Try.pinned (OpenSpec.ofChange fnCoverOfTurnWrong)

/-- 'laws.FnCoverOf': WHATEVER THE INPUT: true; the input reads as it did. -/
def fnCoverOfSpec : ChangeSpec := { name := "fnCoverOf", fn := fun _ => fun
  | [d1, d2] => { results := [.lit (.bool true)], args := [d1, d2] }
  | _ => none }
def fnCoverOfRow : OpenClaim := { program := "ytiibfjdjccofdaa", sum := "d88d8253ec8ecc23d64b4a073dfae0e3d66b68034df3c3202f2f1ff40e26f62f", func := "loop.example/radiointerferometer/laws.FnCoverOf", spec := "fnCoverOf", unfollowed := true, recurses := true, apart := false }
def FnCoverOfSaid : Prop := fnCoverOfRow.holds Try.pinned (OpenSpec.ofChange fnCoverOfSpec)

/-- ITS FALSE NEIGHBOUR: 'it returns false'. Refute it at one input. -/
def fnCoverOfWrong : ChangeSpec := { name := "fnCoverOf", fn := fun _ => fun
  | [d1, d2] => { results := [.lit (.bool false)], args := [d1, d2] }
  | _ => none }
def FnCoverOfWrongFalsely : Prop := fnCoverOfRow.holds Try.pinned (OpenSpec.ofChange fnCoverOfWrong)

/- THE SECOND FORM. 'bulk': how many values and letters a reading holds, each counted each time it is reached (what is shared counts as often as it is met; a slice's spare places count too). A statement '..UptoSaid' is the law's where the arguments, and the package variables that the reading takes, are together of bulk at most 1048576: NARROWER than '..Said'. Prove '..Said' where nothing that the law and all that it calls make is longer than what came in: it says more and counts as full. Else prove '..UptoSaid'. A law counts once. -/
mutual
def uptoBulk {H : Type} : DataW H → Nat
  | .lit (.string bytes) => bytes.length + 1
  | .lit _ => 1
  | .nil => 1
  | .ptr d => uptoBulk d + 1
  | .slice elems spare => uptoBulkAll elems + uptoBulkAll spare + 1
  | .agg parts => uptoBulkAll parts + 1
  | .iface _ d => uptoBulk d + 1
  | .map entries => uptoBulkEntries entries + 1
  | .held _ => 1
def uptoBulkAll {H : Type} : List (DataW H) → Nat
  | [] => 0
  | d :: r => uptoBulk d + uptoBulkAll r
def uptoBulkEntries {H : Type} : List (Lit × DataW H) → Nat
  | [] => 0
  | x :: r => uptoBulkEntry x + uptoBulkEntries r
def uptoBulkEntry {H : Type} : Lit × DataW H → Nat
  | (.string bytes, d) => bytes.length + uptoBulk d + 1
  | (_, d) => uptoBulk d + 1
 end
def uptoSmall : (H : Type) → List (DataW H) → Bool := fun _ ds => decide (uptoBulkAll ds ≤ 1048576)
def OpenSpec.upto (s : _root_.Go.ChangeSpec) : _root_.Go.OpenSpec := { _root_.Go.OpenSpec.ofChange s with cond := some uptoSmall }

/-- 'laws.FnScaleTwice', WHERE WHAT IT READS IS OF BULK AT MOST 1048576: true; the input reads as it did. -/
def fnScaleTwiceUptoRow : OpenClaim := { program := "ytiibfjdjccofdaa", sum := "d88d8253ec8ecc23d64b4a073dfae0e3d66b68034df3c3202f2f1ff40e26f62f", func := "loop.example/radiointerferometer/laws.FnScaleTwice", spec := "fnScaleTwice", unfollowed := true, recurses := true, apart := false, narrowed := true }
def FnScaleTwiceUptoSaid : Prop := fnScaleTwiceUptoRow.holds Try.pinned (OpenSpec.upto fnScaleTwiceSpec)

/-- 'laws.FnExactTrackScale', WHERE WHAT IT READS IS OF BULK AT MOST 1048576: true; the input reads as it did. -/
def fnExactTrackScaleUptoRow : OpenClaim := { program := "ytiibfjdjccofdaa", sum := "d88d8253ec8ecc23d64b4a073dfae0e3d66b68034df3c3202f2f1ff40e26f62f", func := "loop.example/radiointerferometer/laws.FnExactTrackScale", spec := "fnExactTrackScale", unfollowed := true, recurses := true, apart := false, narrowed := true }
def FnExactTrackScaleUptoSaid : Prop := fnExactTrackScaleUptoRow.holds Try.pinned (OpenSpec.upto fnExactTrackScaleSpec)

/-- 'laws.FnExactWeightNatural', WHERE WHAT IT READS IS OF BULK AT MOST 1048576: true; the input reads as it did. -/
def fnExactWeightNaturalUptoRow : OpenClaim := { program := "ytiibfjdjccofdaa", sum := "d88d8253ec8ecc23d64b4a073dfae0e3d66b68034df3c3202f2f1ff40e26f62f", func := "loop.example/radiointerferometer/laws.FnExactWeightNatural", spec := "fnExactWeightNatural", unfollowed := true, recurses := true, apart := false, narrowed := true }
def FnExactWeightNaturalUptoSaid : Prop := fnExactWeightNaturalUptoRow.holds Try.pinned (OpenSpec.upto fnExactWeightNaturalSpec)

/-- 'laws.FnScaleCells', WHERE WHAT IT READS IS OF BULK AT MOST 1048576: true; the input reads as it did. -/
def fnScaleCellsUptoRow : OpenClaim := { program := "ytiibfjdjccofdaa", sum := "d88d8253ec8ecc23d64b4a073dfae0e3d66b68034df3c3202f2f1ff40e26f62f", func := "loop.example/radiointerferometer/laws.FnScaleCells", spec := "fnScaleCells", unfollowed := true, recurses := true, apart := false, narrowed := true }
def FnScaleCellsUptoSaid : Prop := fnScaleCellsUptoRow.holds Try.pinned (OpenSpec.upto fnScaleCellsSpec)

/-- 'laws.FnExactCoverOf', WHERE WHAT IT READS IS OF BULK AT MOST 1048576: true; the input reads as it did. -/
def fnExactCoverOfUptoRow : OpenClaim := { program := "ytiibfjdjccofdaa", sum := "d88d8253ec8ecc23d64b4a073dfae0e3d66b68034df3c3202f2f1ff40e26f62f", func := "loop.example/radiointerferometer/laws.FnExactCoverOf", spec := "fnExactCoverOf", unfollowed := true, recurses := true, apart := false, narrowed := true }
def FnExactCoverOfUptoSaid : Prop := fnExactCoverOfUptoRow.holds Try.pinned (OpenSpec.upto fnExactCoverOfSpec)

/-- 'laws.FnCoverOfWhy', WHERE WHAT IT READS IS OF BULK AT MOST 1048576: true; the input reads as it did. -/
def fnCoverOfWhyUptoRow : OpenClaim := { program := "ytiibfjdjccofdaa", sum := "d88d8253ec8ecc23d64b4a073dfae0e3d66b68034df3c3202f2f1ff40e26f62f", func := "loop.example/radiointerferometer/laws.FnCoverOfWhy", spec := "fnCoverOfWhy", unfollowed := true, recurses := true, apart := false, narrowed := true }
def FnCoverOfWhyUptoSaid : Prop := fnCoverOfWhyUptoRow.holds Try.pinned (OpenSpec.upto fnCoverOfWhySpec)

/-- 'laws.FnScaleOpposite', WHERE WHAT IT READS IS OF BULK AT MOST 1048576: true; the input reads as it did. -/
def fnScaleOppositeUptoRow : OpenClaim := { program := "ytiibfjdjccofdaa", sum := "d88d8253ec8ecc23d64b4a073dfae0e3d66b68034df3c3202f2f1ff40e26f62f", func := "loop.example/radiointerferometer/laws.FnScaleOpposite", spec := "fnScaleOpposite", unfollowed := true, recurses := true, apart := false, narrowed := true }
def FnScaleOppositeUptoSaid : Prop := fnScaleOppositeUptoRow.holds Try.pinned (OpenSpec.upto fnScaleOppositeSpec)

/-- 'laws.FnScale', WHERE WHAT IT READS IS OF BULK AT MOST 1048576: true; the input reads as it did. -/
def fnScaleUptoRow : OpenClaim := { program := "ytiibfjdjccofdaa", sum := "d88d8253ec8ecc23d64b4a073dfae0e3d66b68034df3c3202f2f1ff40e26f62f", func := "loop.example/radiointerferometer/laws.FnScale", spec := "fnScale", unfollowed := true, recurses := true, apart := false, narrowed := true }
def FnScaleUptoSaid : Prop := fnScaleUptoRow.holds Try.pinned (OpenSpec.upto fnScaleSpec)

/-- 'laws.FnCoverOfShift', WHERE WHAT IT READS IS OF BULK AT MOST 1048576: true; the input reads as it did. -/
def fnCoverOfShiftUptoRow : OpenClaim := { program := "ytiibfjdjccofdaa", sum := "d88d8253ec8ecc23d64b4a073dfae0e3d66b68034df3c3202f2f1ff40e26f62f", func := "loop.example/radiointerferometer/laws.FnCoverOfShift", spec := "fnCoverOfShift", unfollowed := true, recurses := true, apart := false, narrowed := true }
def FnCoverOfShiftUptoSaid : Prop := fnCoverOfShiftUptoRow.holds Try.pinned (OpenSpec.upto fnCoverOfShiftSpec)

/-- 'laws.FnCoverOfLess', WHERE WHAT IT READS IS OF BULK AT MOST 1048576: true; the input reads as it did. -/
def fnCoverOfLessUptoRow : OpenClaim := { program := "ytiibfjdjccofdaa", sum := "d88d8253ec8ecc23d64b4a073dfae0e3d66b68034df3c3202f2f1ff40e26f62f", func := "loop.example/radiointerferometer/laws.FnCoverOfLess", spec := "fnCoverOfLess", unfollowed := true, recurses := true, apart := false, narrowed := true }
def FnCoverOfLessUptoSaid : Prop := fnCoverOfLessUptoRow.holds Try.pinned (OpenSpec.upto fnCoverOfLessSpec)

/-- 'laws.FnCoverOfTurn', WHERE WHAT IT READS IS OF BULK AT MOST 1048576: true; the input reads as it did. -/
def fnCoverOfTurnUptoRow : OpenClaim := { program := "ytiibfjdjccofdaa", sum := "d88d8253ec8ecc23d64b4a073dfae0e3d66b68034df3c3202f2f1ff40e26f62f", func := "loop.example/radiointerferometer/laws.FnCoverOfTurn", spec := "fnCoverOfTurn", unfollowed := true, recurses := true, apart := false, narrowed := true }
def FnCoverOfTurnUptoSaid : Prop := fnCoverOfTurnUptoRow.holds Try.pinned (OpenSpec.upto fnCoverOfTurnSpec)

/-- 'laws.FnCoverOf', WHERE WHAT IT READS IS OF BULK AT MOST 1048576: true; the input reads as it did. -/
def fnCoverOfUptoRow : OpenClaim := { program := "ytiibfjdjccofdaa", sum := "d88d8253ec8ecc23d64b4a073dfae0e3d66b68034df3c3202f2f1ff40e26f62f", func := "loop.example/radiointerferometer/laws.FnCoverOf", spec := "fnCoverOf", unfollowed := true, recurses := true, apart := false, narrowed := true }
def FnCoverOfUptoSaid : Prop := fnCoverOfUptoRow.holds Try.pinned (OpenSpec.upto fnCoverOfSpec)

end Rows
end Go.Proofs.Ytiibfjdjccofdaa
