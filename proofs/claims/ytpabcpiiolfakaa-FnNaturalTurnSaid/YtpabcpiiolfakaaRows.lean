/-
  No cell of these rows narrows 'for every input' (looked for: loops, veiled, ifaces, maps, wideKeys, modest, calm, conditions, laid).
  DERIVED. THE GIVEN ROWS OF THIS SEAT. 14 by the template 'for every input the law returns true; each argument reads behind the call as it read before'; 0 by the template 'total and deterministic' (their statements: YtpabcpiiolfakaaTotals.lean).
  GIVEN WITH THE SEED: the statements are not yours to turn. If you find one false, say at which input.
  Laid BY PROGRAM, IN A SANDBOX (cutbox-rows.mjs): the forced cells as the released guide's own fill.sh prints them over the translation 7041830dfd28167e… (all of the seat's roots in one cut). By AI agents, Wed Nov 11 2026. No macro, syntax, notation, axiom, sorry.
-/
import Derived.Test.YtpabcpiiolfakaaChecked
import GoSem.Claim
import GoSem.ClaimJoined
import GoSem.ClaimMapViews
import Derived.JoinedTies
import Derived.KernelRfl
namespace Go.Proofs.Ytpabcpiiolfakaa
/- THE CELL 'sum', in the pinned program and in every row, IS THE sha256 OF THE DUMP (.gsa) THAT YtpabcpiiolfakaaProg.lean LOADS. Nothing in Lean hashes anything: it is a label: what it is worth is what the hold of that sum in a sandbox is worth. -/
noncomputable def Try.pinned : Pinned := { name := "ytpabcpiiolfakaa", sum := "7041830dfd28167e30fd744372763603419bad7371bbeba9ae3be43423805f21", checked := Try.checked }
namespace Rows
def none {H : Type} : Left H := { results := [], args := [] }

/-- 'laws.FnFullNone': WHATEVER THE INPUT: true; the input reads as it did. -/
def fnFullNoneSpec : ChangeSpec := { name := "fnFullNone", fn := fun _ => fun
  | [d] => { results := [.lit (.bool true)], args := [d] }
  | _ => none }
def fnFullNoneRow : OpenClaim := { program := "ytpabcpiiolfakaa", sum := "7041830dfd28167e30fd744372763603419bad7371bbeba9ae3be43423805f21", func := "loop.example/radiointerferometer/laws.FnFullNone", spec := "fnFullNone", unfollowed := true, recurses := true, apart := false }
def FnFullNoneSaid : Prop := fnFullNoneRow.holds Try.pinned (OpenSpec.ofChange fnFullNoneSpec)

/-- ITS FALSE NEIGHBOUR: 'it returns false'. Refute it at one input. -/
def fnFullNoneWrong : ChangeSpec := { name := "fnFullNone", fn := fun _ => fun
  | [d] => { results := [.lit (.bool false)], args := [d] }
  | _ => none }
def FnFullNoneWrongFalsely : Prop := fnFullNoneRow.holds Try.pinned (OpenSpec.ofChange fnFullNoneWrong)

/-- 'laws.FnTrack': WHATEVER THE INPUT: true; the input reads as it did. -/
def fnTrackSpec : ChangeSpec := { name := "fnTrack", fn := fun _ => fun
  | [d1, d2] => { results := [.lit (.bool true)], args := [d1, d2] }
  | _ => none }
def fnTrackRow : OpenClaim := { program := "ytpabcpiiolfakaa", sum := "7041830dfd28167e30fd744372763603419bad7371bbeba9ae3be43423805f21", func := "loop.example/radiointerferometer/laws.FnTrack", spec := "fnTrack", unfollowed := true, recurses := true, apart := false }
def FnTrackSaid : Prop := fnTrackRow.holds Try.pinned (OpenSpec.ofChange fnTrackSpec)

/-- ITS FALSE NEIGHBOUR: 'it returns false'. Refute it at one input. -/
def fnTrackWrong : ChangeSpec := { name := "fnTrack", fn := fun _ => fun
  | [d1, d2] => { results := [.lit (.bool false)], args := [d1, d2] }
  | _ => none }
def FnTrackWrongFalsely : Prop := fnTrackRow.holds Try.pinned (OpenSpec.ofChange fnTrackWrong)

/-- 'laws.FnTrackShift': WHATEVER THE INPUT: true; the input reads as it did. -/
def fnTrackShiftSpec : ChangeSpec := { name := "fnTrackShift", fn := fun _ => fun
  | [d] => { results := [.lit (.bool true)], args := [d] }
  | _ => none }
def fnTrackShiftRow : OpenClaim := { program := "ytpabcpiiolfakaa", sum := "7041830dfd28167e30fd744372763603419bad7371bbeba9ae3be43423805f21", func := "loop.example/radiointerferometer/laws.FnTrackShift", spec := "fnTrackShift", unfollowed := true, recurses := true, apart := false }
def FnTrackShiftSaid : Prop := fnTrackShiftRow.holds Try.pinned (OpenSpec.ofChange fnTrackShiftSpec)

/-- ITS FALSE NEIGHBOUR: 'it returns false'. Refute it at one input. -/
def fnTrackShiftWrong : ChangeSpec := { name := "fnTrackShift", fn := fun _ => fun
  | [d] => { results := [.lit (.bool false)], args := [d] }
  | _ => none }
def FnTrackShiftWrongFalsely : Prop := fnTrackShiftRow.holds Try.pinned (OpenSpec.ofChange fnTrackShiftWrong)

/-- 'laws.FnChannels': WHATEVER THE INPUT: true; the input reads as it did. -/
def fnChannelsSpec : ChangeSpec := { name := "fnChannels", fn := fun _ => fun
  | [d] => { results := [.lit (.bool true)], args := [d] }
  | _ => none }
def fnChannelsRow : OpenClaim := { program := "ytpabcpiiolfakaa", sum := "7041830dfd28167e30fd744372763603419bad7371bbeba9ae3be43423805f21", func := "loop.example/radiointerferometer/laws.FnChannels", spec := "fnChannels", unfollowed := true, recurses := true, apart := false }
def FnChannelsSaid : Prop := fnChannelsRow.holds Try.pinned (OpenSpec.ofChange fnChannelsSpec)

/-- ITS FALSE NEIGHBOUR: 'it returns false'. Refute it at one input. -/
def fnChannelsWrong : ChangeSpec := { name := "fnChannels", fn := fun _ => fun
  | [d] => { results := [.lit (.bool false)], args := [d] }
  | _ => none }
def FnChannelsWrongFalsely : Prop := fnChannelsRow.holds Try.pinned (OpenSpec.ofChange fnChannelsWrong)

/-- 'laws.FnChannelsMore': WHATEVER THE INPUT: true; the input reads as it did. -/
def fnChannelsMoreSpec : ChangeSpec := { name := "fnChannelsMore", fn := fun _ => fun
  | [d] => { results := [.lit (.bool true)], args := [d] }
  | _ => none }
def fnChannelsMoreRow : OpenClaim := { program := "ytpabcpiiolfakaa", sum := "7041830dfd28167e30fd744372763603419bad7371bbeba9ae3be43423805f21", func := "loop.example/radiointerferometer/laws.FnChannelsMore", spec := "fnChannelsMore", unfollowed := true, recurses := true, apart := false }
def FnChannelsMoreSaid : Prop := fnChannelsMoreRow.holds Try.pinned (OpenSpec.ofChange fnChannelsMoreSpec)

/-- ITS FALSE NEIGHBOUR: 'it returns false'. Refute it at one input. -/
def fnChannelsMoreWrong : ChangeSpec := { name := "fnChannelsMore", fn := fun _ => fun
  | [d] => { results := [.lit (.bool false)], args := [d] }
  | _ => none }
def FnChannelsMoreWrongFalsely : Prop := fnChannelsMoreRow.holds Try.pinned (OpenSpec.ofChange fnChannelsMoreWrong)

/-- 'laws.FnExactTrackChannels': WHATEVER THE INPUT: true; the input reads as it did. -/
def fnExactTrackChannelsSpec : ChangeSpec := { name := "fnExactTrackChannels", fn := fun _ => fun
  | [d1, d2] => { results := [.lit (.bool true)], args := [d1, d2] }
  | _ => none }
def fnExactTrackChannelsRow : OpenClaim := { program := "ytpabcpiiolfakaa", sum := "7041830dfd28167e30fd744372763603419bad7371bbeba9ae3be43423805f21", func := "loop.example/radiointerferometer/laws.FnExactTrackChannels", spec := "fnExactTrackChannels", unfollowed := true, recurses := true, apart := false }
def FnExactTrackChannelsSaid : Prop := fnExactTrackChannelsRow.holds Try.pinned (OpenSpec.ofChange fnExactTrackChannelsSpec)

/-- ITS FALSE NEIGHBOUR: 'it returns false'. Refute it at one input. -/
def fnExactTrackChannelsWrong : ChangeSpec := { name := "fnExactTrackChannels", fn := fun _ => fun
  | [d1, d2] => { results := [.lit (.bool false)], args := [d1, d2] }
  | _ => none }
def FnExactTrackChannelsWrongFalsely : Prop := fnExactTrackChannelsRow.holds Try.pinned (OpenSpec.ofChange fnExactTrackChannelsWrong)

/-- 'laws.FnExactTrackFull': WHATEVER THE INPUT: true; the input reads as it did. -/
def fnExactTrackFullSpec : ChangeSpec := { name := "fnExactTrackFull", fn := fun _ => fun
  | [d] => { results := [.lit (.bool true)], args := [d] }
  | _ => none }
def fnExactTrackFullRow : OpenClaim := { program := "ytpabcpiiolfakaa", sum := "7041830dfd28167e30fd744372763603419bad7371bbeba9ae3be43423805f21", func := "loop.example/radiointerferometer/laws.FnExactTrackFull", spec := "fnExactTrackFull", unfollowed := true, recurses := true, apart := false }
def FnExactTrackFullSaid : Prop := fnExactTrackFullRow.holds Try.pinned (OpenSpec.ofChange fnExactTrackFullSpec)

/-- ITS FALSE NEIGHBOUR: 'it returns false'. Refute it at one input. -/
def fnExactTrackFullWrong : ChangeSpec := { name := "fnExactTrackFull", fn := fun _ => fun
  | [d] => { results := [.lit (.bool false)], args := [d] }
  | _ => none }
def FnExactTrackFullWrongFalsely : Prop := fnExactTrackFullRow.holds Try.pinned (OpenSpec.ofChange fnExactTrackFullWrong)

/-- 'laws.FnTrackMany': WHATEVER THE INPUT: true; the input reads as it did. -/
def fnTrackManySpec : ChangeSpec := { name := "fnTrackMany", fn := fun _ => fun
  | [d] => { results := [.lit (.bool true)], args := [d] }
  | _ => none }
def fnTrackManyRow : OpenClaim := { program := "ytpabcpiiolfakaa", sum := "7041830dfd28167e30fd744372763603419bad7371bbeba9ae3be43423805f21", func := "loop.example/radiointerferometer/laws.FnTrackMany", spec := "fnTrackMany", unfollowed := true, recurses := true, apart := false }
def FnTrackManySaid : Prop := fnTrackManyRow.holds Try.pinned (OpenSpec.ofChange fnTrackManySpec)

/-- ITS FALSE NEIGHBOUR: 'it returns false'. Refute it at one input. -/
def fnTrackManyWrong : ChangeSpec := { name := "fnTrackMany", fn := fun _ => fun
  | [d] => { results := [.lit (.bool false)], args := [d] }
  | _ => none }
def FnTrackManyWrongFalsely : Prop := fnTrackManyRow.holds Try.pinned (OpenSpec.ofChange fnTrackManyWrong)

/-- 'laws.FnExactTrackCover': WHATEVER THE INPUT: true; the input reads as it did. -/
def fnExactTrackCoverSpec : ChangeSpec := { name := "fnExactTrackCover", fn := fun _ => fun
  | [d] => { results := [.lit (.bool true)], args := [d] }
  | _ => none }
def fnExactTrackCoverRow : OpenClaim := { program := "ytpabcpiiolfakaa", sum := "7041830dfd28167e30fd744372763603419bad7371bbeba9ae3be43423805f21", func := "loop.example/radiointerferometer/laws.FnExactTrackCover", spec := "fnExactTrackCover", unfollowed := true, recurses := true, apart := false }
def FnExactTrackCoverSaid : Prop := fnExactTrackCoverRow.holds Try.pinned (OpenSpec.ofChange fnExactTrackCoverSpec)

/-- ITS FALSE NEIGHBOUR: 'it returns false'. Refute it at one input. -/
def fnExactTrackCoverWrong : ChangeSpec := { name := "fnExactTrackCover", fn := fun _ => fun
  | [d] => { results := [.lit (.bool false)], args := [d] }
  | _ => none }
def FnExactTrackCoverWrongFalsely : Prop := fnExactTrackCoverRow.holds Try.pinned (OpenSpec.ofChange fnExactTrackCoverWrong)

/-- 'laws.FnChannelsTurn': WHATEVER THE INPUT: true; the input reads as it did. -/
def fnChannelsTurnSpec : ChangeSpec := { name := "fnChannelsTurn", fn := fun _ => fun
  | [d] => { results := [.lit (.bool true)], args := [d] }
  | _ => none }
def fnChannelsTurnRow : OpenClaim := { program := "ytpabcpiiolfakaa", sum := "7041830dfd28167e30fd744372763603419bad7371bbeba9ae3be43423805f21", func := "loop.example/radiointerferometer/laws.FnChannelsTurn", spec := "fnChannelsTurn", unfollowed := true, recurses := true, apart := false }
def FnChannelsTurnSaid : Prop := fnChannelsTurnRow.holds Try.pinned (OpenSpec.ofChange fnChannelsTurnSpec)

/-- ITS FALSE NEIGHBOUR: 'it returns false'. Refute it at one input. -/
def fnChannelsTurnWrong : ChangeSpec := { name := "fnChannelsTurn", fn := fun _ => fun
  | [d] => { results := [.lit (.bool false)], args := [d] }
  | _ => none }
def FnChannelsTurnWrongFalsely : Prop := fnChannelsTurnRow.holds Try.pinned (OpenSpec.ofChange fnChannelsTurnWrong)

/-- 'laws.FnFull': WHATEVER THE INPUT: true; the input reads as it did. -/
def fnFullSpec : ChangeSpec := { name := "fnFull", fn := fun _ => fun
  | [d] => { results := [.lit (.bool true)], args := [d] }
  | _ => none }
def fnFullRow : OpenClaim := { program := "ytpabcpiiolfakaa", sum := "7041830dfd28167e30fd744372763603419bad7371bbeba9ae3be43423805f21", func := "loop.example/radiointerferometer/laws.FnFull", spec := "fnFull", unfollowed := true, recurses := true, apart := false }
def FnFullSaid : Prop := fnFullRow.holds Try.pinned (OpenSpec.ofChange fnFullSpec)

/-- ITS FALSE NEIGHBOUR: 'it returns false'. Refute it at one input. -/
def fnFullWrong : ChangeSpec := { name := "fnFull", fn := fun _ => fun
  | [d] => { results := [.lit (.bool false)], args := [d] }
  | _ => none }
def FnFullWrongFalsely : Prop := fnFullRow.holds Try.pinned (OpenSpec.ofChange fnFullWrong)

/-- 'laws.FnNaturalTurn': WHATEVER THE INPUT: true; the input reads as it did. -/
def fnNaturalTurnSpec : ChangeSpec := { name := "fnNaturalTurn", fn := fun _ => fun
  | [d] => { results := [.lit (.bool true)], args := [d] }
  | _ => none }
def fnNaturalTurnRow : OpenClaim := { program := "ytpabcpiiolfakaa", sum := "7041830dfd28167e30fd744372763603419bad7371bbeba9ae3be43423805f21", func := "loop.example/radiointerferometer/laws.FnNaturalTurn", spec := "fnNaturalTurn", unfollowed := true, recurses := true, apart := false }
def FnNaturalTurnSaid : Prop := fnNaturalTurnRow.holds Try.pinned (OpenSpec.ofChange fnNaturalTurnSpec)

/-- ITS FALSE NEIGHBOUR: 'it returns false'. Refute it at one input. -/
def fnNaturalTurnWrong : ChangeSpec := { name := "fnNaturalTurn", fn := fun _ => fun
  | [d] => { results := [.lit (.bool false)], args := [d] }
  | _ => none }
def FnNaturalTurnWrongFalsely : Prop := fnNaturalTurnRow.holds Try.pinned (OpenSpec.ofChange fnNaturalTurnWrong)

/-- 'laws.FnNatural': WHATEVER THE INPUT: true; the input reads as it did. -/
def fnNaturalSpec : ChangeSpec := { name := "fnNatural", fn := fun _ => fun
  | [d] => { results := [.lit (.bool true)], args := [d] }
  | _ => none }
def fnNaturalRow : OpenClaim := { program := "ytpabcpiiolfakaa", sum := "7041830dfd28167e30fd744372763603419bad7371bbeba9ae3be43423805f21", func := "loop.example/radiointerferometer/laws.FnNatural", spec := "fnNatural", unfollowed := true, recurses := true, apart := false }
def FnNaturalSaid : Prop := fnNaturalRow.holds Try.pinned (OpenSpec.ofChange fnNaturalSpec)

/-- ITS FALSE NEIGHBOUR: 'it returns false'. Refute it at one input. -/
def fnNaturalWrong : ChangeSpec := { name := "fnNatural", fn := fun _ => fun
  | [d] => { results := [.lit (.bool false)], args := [d] }
  | _ => none }
def FnNaturalWrongFalsely : Prop := fnNaturalRow.holds Try.pinned (OpenSpec.ofChange fnNaturalWrong)

/-- 'laws.FnUniformNatural': WHATEVER THE INPUT: true; the input reads as it did. -/
def fnUniformNaturalSpec : ChangeSpec := { name := "fnUniformNatural", fn := fun _ => fun
  | [d] => { results := [.lit (.bool true)], args := [d] }
  | _ => none }
def fnUniformNaturalRow : OpenClaim := { program := "ytpabcpiiolfakaa", sum := "7041830dfd28167e30fd744372763603419bad7371bbeba9ae3be43423805f21", func := "loop.example/radiointerferometer/laws.FnUniformNatural", spec := "fnUniformNatural", unfollowed := true, recurses := true, apart := false }
def FnUniformNaturalSaid : Prop := fnUniformNaturalRow.holds Try.pinned (OpenSpec.ofChange fnUniformNaturalSpec)

/-- ITS FALSE NEIGHBOUR: 'it returns false'. Refute it at one input. -/
def fnUniformNaturalWrong : ChangeSpec := { name := "fnUniformNatural", fn := fun _ => fun
  | [d] => { results := [.lit (.bool false)], args := [d] }
  | _ => none }
def FnUniformNaturalWrongFalsely : Prop := fnUniformNaturalRow.holds Try.pinned (OpenSpec.ofChange fnUniformNaturalWrong)

/- THE SECOND FORM. 'bulk': how many values and letters a reading holds, each counted each time it is reached (what is shared counts as often as it is met; a slice's spare places count too). A statement '..UptoSaid' is the law's where the arguments, and the package variables that the reading takes, are together of bulk at most 1048576: NARROWER than '..Said'. Prove '..Said' where nothing that the law and all that it calls make is longer than what came in: it says more and counts as full. Else prove '..UptoSaid'. A law counts once. -/
mutual
def uptoBulk {H : Type} : DataW H → Nat
  | .lit (.string bytes) => bytes.length + 1
  | .lit _ => 1
  | .nil => 1
  | .ptr d => uptoBulk d + 1
  | .slice elems spare => uptoBulkAll elems + uptoBulkAll spare + 1
  | .agg parts => uptoBulkAll parts + 1
  | .iface _ d => uptoBulk d + 1
  | .map entries => uptoBulkEntries entries + 1
  | .held _ => 1
def uptoBulkAll {H : Type} : List (DataW H) → Nat
  | [] => 0
  | d :: r => uptoBulk d + uptoBulkAll r
def uptoBulkEntries {H : Type} : List (Lit × DataW H) → Nat
  | [] => 0
  | x :: r => uptoBulkEntry x + uptoBulkEntries r
def uptoBulkEntry {H : Type} : Lit × DataW H → Nat
  | (.string bytes, d) => bytes.length + uptoBulk d + 1
  | (_, d) => uptoBulk d + 1
 end
def uptoSmall : (H : Type) → List (DataW H) → Bool := fun _ ds => decide (uptoBulkAll ds ≤ 1048576)
def OpenSpec.upto (s : _root_.Go.ChangeSpec) : _root_.Go.OpenSpec := { _root_.Go.OpenSpec.ofChange s with cond := some uptoSmall }

/-- 'laws.FnFullNone', WHERE WHAT IT READS IS OF BULK AT MOST 1048576: true; the input reads as it did. -/
def fnFullNoneUptoRow : OpenClaim := { program := "ytpabcpiiolfakaa", sum := "7041830dfd28167e30fd744372763603419bad7371bbeba9ae3be43423805f21", func := "loop.example/radiointerferometer/laws.FnFullNone", spec := "fnFullNone", unfollowed := true, recurses := true, apart := false, narrowed := true }
def FnFullNoneUptoSaid : Prop := fnFullNoneUptoRow.holds Try.pinned (OpenSpec.upto fnFullNoneSpec)

/-- 'laws.FnTrack', WHERE WHAT IT READS IS OF BULK AT MOST 1048576: true; the input reads as it did. -/
def fnTrackUptoRow : OpenClaim := { program := "ytpabcpiiolfakaa", sum := "7041830dfd28167e30fd744372763603419bad7371bbeba9ae3be43423805f21", func := "loop.example/radiointerferometer/laws.FnTrack", spec := "fnTrack", unfollowed := true, recurses := true, apart := false, narrowed := true }
def FnTrackUptoSaid : Prop := fnTrackUptoRow.holds Try.pinned (OpenSpec.upto fnTrackSpec)

/-- 'laws.FnTrackShift', WHERE WHAT IT READS IS OF BULK AT MOST 1048576: true; the input reads as it did. -/
def fnTrackShiftUptoRow : OpenClaim := { program := "ytpabcpiiolfakaa", sum := "7041830dfd28167e30fd744372763603419bad7371bbeba9ae3be43423805f21", func := "loop.example/radiointerferometer/laws.FnTrackShift", spec := "fnTrackShift", unfollowed := true, recurses := true, apart := false, narrowed := true }
def FnTrackShiftUptoSaid : Prop := fnTrackShiftUptoRow.holds Try.pinned (OpenSpec.upto fnTrackShiftSpec)

/-- 'laws.FnChannels', WHERE WHAT IT READS IS OF BULK AT MOST 1048576: true; the input reads as it did. -/
def fnChannelsUptoRow : OpenClaim := { program := "ytpabcpiiolfakaa", sum := "7041830dfd28167e30fd744372763603419bad7371bbeba9ae3be43423805f21", func := "loop.example/radiointerferometer/laws.FnChannels", spec := "fnChannels", unfollowed := true, recurses := true, apart := false, narrowed := true }
def FnChannelsUptoSaid : Prop := fnChannelsUptoRow.holds Try.pinned (OpenSpec.upto fnChannelsSpec)

/-- 'laws.FnChannelsMore', WHERE WHAT IT READS IS OF BULK AT MOST 1048576: true; the input reads as it did. -/
def fnChannelsMoreUptoRow : OpenClaim := { program := "ytpabcpiiolfakaa", sum := "7041830dfd28167e30fd744372763603419bad7371bbeba9ae3be43423805f21", func := "loop.example/radiointerferometer/laws.FnChannelsMore", spec := "fnChannelsMore", unfollowed := true, recurses := true, apart := false, narrowed := true }
def FnChannelsMoreUptoSaid : Prop := fnChannelsMoreUptoRow.holds Try.pinned (OpenSpec.upto fnChannelsMoreSpec)

/-- 'laws.FnExactTrackChannels', WHERE WHAT IT READS IS OF BULK AT MOST 1048576: true; the input reads as it did. -/
def fnExactTrackChannelsUptoRow : OpenClaim := { program := "ytpabcpiiolfakaa", sum := "7041830dfd28167e30fd744372763603419bad7371bbeba9ae3be43423805f21", func := "loop.example/radiointerferometer/laws.FnExactTrackChannels", spec := "fnExactTrackChannels", unfollowed := true, recurses := true, apart := false, narrowed := true }
def FnExactTrackChannelsUptoSaid : Prop := fnExactTrackChannelsUptoRow.holds Try.pinned (OpenSpec.upto fnExactTrackChannelsSpec)

/-- 'laws.FnExactTrackFull', WHERE WHAT IT READS IS OF BULK AT MOST 1048576: true; the input reads as it did. -/
def fnExactTrackFullUptoRow : OpenClaim := { program := "ytpabcpiiolfakaa", sum := "7041830dfd28167e30fd744372763603419bad7371bbeba9ae3be43423805f21", func := "loop.example/radiointerferometer/laws.FnExactTrackFull", spec := "fnExactTrackFull", unfollowed := true, recurses := true, apart := false, narrowed := true }
def FnExactTrackFullUptoSaid : Prop := fnExactTrackFullUptoRow.holds Try.pinned (OpenSpec.upto fnExactTrackFullSpec)

/-- 'laws.FnTrackMany', WHERE WHAT IT READS IS OF BULK AT MOST 1048576: true; the input reads as it did. -/
def fnTrackManyUptoRow : OpenClaim := { program := "ytpabcpiiolfakaa", sum := "7041830dfd28167e30fd744372763603419bad7371bbeba9ae3be43423805f21", func := "loop.example/radiointerferometer/laws.FnTrackMany", spec := "fnTrackMany", unfollowed := true, recurses := true, apart := false, narrowed := true }
def FnTrackManyUptoSaid : Prop := fnTrackManyUptoRow.holds Try.pinned (OpenSpec.upto fnTrackManySpec)

/-- 'laws.FnExactTrackCover', WHERE WHAT IT READS IS OF BULK AT MOST 1048576: true; the input reads as it did. -/
def fnExactTrackCoverUptoRow : OpenClaim := { program := "ytpabcpiiolfakaa", sum := "7041830dfd28167e30fd744372763603419bad7371bbeba9ae3be43423805f21", func := "loop.example/radiointerferometer/laws.FnExactTrackCover", spec := "fnExactTrackCover", unfollowed := true, recurses := true, apart := false, narrowed := true }
def FnExactTrackCoverUptoSaid : Prop := fnExactTrackCoverUptoRow.holds Try.pinned (OpenSpec.upto fnExactTrackCoverSpec)

/-- 'laws.FnChannelsTurn', WHERE WHAT IT READS IS OF BULK AT MOST 1048576: true; the input reads as it did. -/
def fnChannelsTurnUptoRow : OpenClaim := { program := "ytpabcpiiolfakaa", sum := "7041830dfd28167e30fd744372763603419bad7371bbeba9ae3be43423805f21", func := "loop.example/radiointerferometer/laws.FnChannelsTurn", spec := "fnChannelsTurn", unfollowed := true, recurses := true, apart := false, narrowed := true }
def FnChannelsTurnUptoSaid : Prop := fnChannelsTurnUptoRow.holds Try.pinned (OpenSpec.upto fnChannelsTurnSpec)

/-- 'laws.FnFull', WHERE WHAT IT READS IS OF BULK AT MOST 1048576: true; the input reads as it did. -/
def fnFullUptoRow : OpenClaim := { program := "ytpabcpiiolfakaa", sum := "7041830dfd28167e30fd744372763603419bad7371bbeba9ae3be43423805f21", func := "loop.example/radiointerferometer/laws.FnFull", spec := "fnFull", unfollowed := true, recurses := true, apart := false, narrowed := true }
def FnFullUptoSaid : Prop := fnFullUptoRow.holds Try.pinned (OpenSpec.upto fnFullSpec)

/-- 'laws.FnNaturalTurn', WHERE WHAT IT READS IS OF BULK AT MOST 1048576: true; the input reads as it did. -/
def fnNaturalTurnUptoRow : OpenClaim := { program := "ytpabcpiiolfakaa", sum := "7041830dfd28167e30fd744372763603419bad7371bbeba9ae3be43423805f21", func := "loop.example/radiointerferometer/laws.FnNaturalTurn", spec := "fnNaturalTurn", unfollowed := true, recurses := true, apart := false, narrowed := true }
def FnNaturalTurnUptoSaid : Prop := fnNaturalTurnUptoRow.holds Try.pinned (OpenSpec.upto fnNaturalTurnSpec)

/-- 'laws.FnNatural', WHERE WHAT IT READS IS OF BULK AT MOST 1048576: true; the input reads as it did. -/
def fnNaturalUptoRow : OpenClaim := { program := "ytpabcpiiolfakaa", sum := "7041830dfd28167e30fd744372763603419bad7371bbeba9ae3be43423805f21", func := "loop.example/radiointerferometer/laws.FnNatural", spec := "fnNatural", unfollowed := true, recurses := true, apart := false, narrowed := true }
def FnNaturalUptoSaid : Prop := fnNaturalUptoRow.holds Try.pinned (OpenSpec.upto fnNaturalSpec)

/-- 'laws.FnUniformNatural', WHERE WHAT IT READS IS OF BULK AT MOST 1048576: true; the input reads as it did. -/
def fnUniformNaturalUptoRow : OpenClaim := { program := "ytpabcpiiolfakaa", sum := "7041830dfd28167e30fd744372763603419bad7371bbeba9ae3be43423805f21", func := "loop.example/radiointerferometer/laws.FnUniformNatural", spec := "fnUniformNatural", unfollowed := true, recurses := true, apart := false, narrowed := true }
def FnUniformNaturalUptoSaid : Prop := fnUniformNaturalUptoRow.holds Try.pinned (OpenSpec.upto fnUniformNaturalSpec)

end Rows
end Go.Proofs.Ytpabcpiiolfakaa
