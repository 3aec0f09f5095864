/-
  No cell of these rows narrows 'for every input' (looked for: loops, veiled, ifaces, maps, wideKeys, modest, calm, conditions, laid).
  DERIVED. THE GIVEN ROWS OF THIS SEAT. 15 by the template 'for every input the law returns true; each argument reads behind the call as it read before'; 0 by the template 'total and deterministic' (their statements: YtdapdaadglaoiaaTotals.lean).
  GIVEN WITH THE SEED: the statements are not yours to turn. If you find one false, say at which input.
  Laid BY PROGRAM, IN A SANDBOX (cutbox-rows.mjs): the forced cells as the released guide's own fill.sh prints them over the translation 77f4e7ef16a8bd12… (all of the seat's roots in one cut). By AI agents, Wed Nov 11 2026. No macro, syntax, notation, axiom, sorry.
-/
import Derived.Test.YtdapdaadglaoiaaChecked
import GoSem.Claim
import GoSem.ClaimJoined
import GoSem.ClaimMapViews
import Derived.JoinedTies
import Derived.KernelRfl
namespace Go.Proofs.Ytdapdaadglaoiaa
/- THE CELL 'sum', in the pinned program and in every row, IS THE sha256 OF THE DUMP (.gsa) THAT YtdapdaadglaoiaaProg.lean LOADS. Nothing in Lean hashes anything: it is a label: what it is worth is what the hold of that sum in a sandbox is worth. -/
noncomputable def Try.pinned : Pinned := { name := "ytdapdaadglaoiaa", sum := "77f4e7ef16a8bd123cda08edfa9e6024e9a114ce81b3a462dce3499901e6105a", checked := Try.checked }
namespace Rows
def none {H : Type} : Left H := { results := [], args := [] }

/-- 'laws.FnPipeEnds': WHATEVER THE INPUT: true; the input reads as it did. -/
def fnPipeEndsSpec : ChangeSpec := { name := "fnPipeEnds", fn := fun _ => fun
  | [d] => { results := [.lit (.bool true)], args := [d] }
  | _ => none }
def fnPipeEndsRow : OpenClaim := { program := "ytdapdaadglaoiaa", sum := "77f4e7ef16a8bd123cda08edfa9e6024e9a114ce81b3a462dce3499901e6105a", func := "loop.example/g00852/laws.FnPipeEnds", spec := "fnPipeEnds", unfollowed := true, recurses := true, apart := false }
def FnPipeEndsSaid : Prop := fnPipeEndsRow.holds Try.pinned (OpenSpec.ofChange fnPipeEndsSpec)

/-- ITS FALSE NEIGHBOUR: 'it returns false'. Refute it at one input. -/
def fnPipeEndsWrong : ChangeSpec := { name := "fnPipeEnds", fn := fun _ => fun
  | [d] => { results := [.lit (.bool false)], args := [d] }
  | _ => none }
def FnPipeEndsWrongFalsely : Prop := fnPipeEndsRow.holds Try.pinned (OpenSpec.ofChange fnPipeEndsWrong)

/-- 'laws.FnNeighbours': WHATEVER THE INPUT: true; the input reads as it did. -/
def fnNeighboursSpec : ChangeSpec := { name := "fnNeighbours", fn := fun _ => fun
  | [d] => { results := [.lit (.bool true)], args := [d] }
  | _ => none }
def fnNeighboursRow : OpenClaim := { program := "ytdapdaadglaoiaa", sum := "77f4e7ef16a8bd123cda08edfa9e6024e9a114ce81b3a462dce3499901e6105a", func := "loop.example/g00852/laws.FnNeighbours", spec := "fnNeighbours", unfollowed := true, recurses := true, apart := false }
def FnNeighboursSaid : Prop := fnNeighboursRow.holds Try.pinned (OpenSpec.ofChange fnNeighboursSpec)

/-- ITS FALSE NEIGHBOUR: 'it returns false'. Refute it at one input. -/
def fnNeighboursWrong : ChangeSpec := { name := "fnNeighbours", fn := fun _ => fun
  | [d] => { results := [.lit (.bool false)], args := [d] }
  | _ => none }
def FnNeighboursWrongFalsely : Prop := fnNeighboursRow.holds Try.pinned (OpenSpec.ofChange fnNeighboursWrong)

/-- 'laws.FnExactNeighboursOf': WHATEVER THE INPUT: true; the input reads as it did. -/
def fnExactNeighboursOfSpec : ChangeSpec := { name := "fnExactNeighboursOf", fn := fun _ => fun
  | [d1, d2] => { results := [.lit (.bool true)], args := [d1, d2] }
  | _ => none }
def fnExactNeighboursOfRow : OpenClaim := { program := "ytdapdaadglaoiaa", sum := "77f4e7ef16a8bd123cda08edfa9e6024e9a114ce81b3a462dce3499901e6105a", func := "loop.example/g00852/laws.FnExactNeighboursOf", spec := "fnExactNeighboursOf", unfollowed := true, recurses := true, apart := false }
def FnExactNeighboursOfSaid : Prop := fnExactNeighboursOfRow.holds Try.pinned (OpenSpec.ofChange fnExactNeighboursOfSpec)

/-- ITS FALSE NEIGHBOUR: 'it returns false'. Refute it at one input. -/
def fnExactNeighboursOfWrong : ChangeSpec := { name := "fnExactNeighboursOf", fn := fun _ => fun
  | [d1, d2] => { results := [.lit (.bool false)], args := [d1, d2] }
  | _ => none }
def FnExactNeighboursOfWrongFalsely : Prop := fnExactNeighboursOfRow.holds Try.pinned (OpenSpec.ofChange fnExactNeighboursOfWrong)

/-- 'laws.FnExactChordsOf': WHATEVER THE INPUT: true; the input reads as it did. -/
def fnExactChordsOfSpec : ChangeSpec := { name := "fnExactChordsOf", fn := fun _ => fun
  | [d] => { results := [.lit (.bool true)], args := [d] }
  | _ => none }
def fnExactChordsOfRow : OpenClaim := { program := "ytdapdaadglaoiaa", sum := "77f4e7ef16a8bd123cda08edfa9e6024e9a114ce81b3a462dce3499901e6105a", func := "loop.example/g00852/laws.FnExactChordsOf", spec := "fnExactChordsOf", unfollowed := true, recurses := true, apart := false }
def FnExactChordsOfSaid : Prop := fnExactChordsOfRow.holds Try.pinned (OpenSpec.ofChange fnExactChordsOfSpec)

/-- ITS FALSE NEIGHBOUR: 'it returns false'. Refute it at one input. -/
def fnExactChordsOfWrong : ChangeSpec := { name := "fnExactChordsOf", fn := fun _ => fun
  | [d] => { results := [.lit (.bool false)], args := [d] }
  | _ => none }
def FnExactChordsOfWrongFalsely : Prop := fnExactChordsOfRow.holds Try.pinned (OpenSpec.ofChange fnExactChordsOfWrong)

/-- 'laws.FnExactChordFlows': WHATEVER THE INPUT: true; the input reads as it did. -/
def fnExactChordFlowsSpec : ChangeSpec := { name := "fnExactChordFlows", fn := fun _ => fun
  | [d1, d2] => { results := [.lit (.bool true)], args := [d1, d2] }
  | _ => none }
def fnExactChordFlowsRow : OpenClaim := { program := "ytdapdaadglaoiaa", sum := "77f4e7ef16a8bd123cda08edfa9e6024e9a114ce81b3a462dce3499901e6105a", func := "loop.example/g00852/laws.FnExactChordFlows", spec := "fnExactChordFlows", unfollowed := true, recurses := true, apart := false }
def FnExactChordFlowsSaid : Prop := fnExactChordFlowsRow.holds Try.pinned (OpenSpec.ofChange fnExactChordFlowsSpec)

/-- ITS FALSE NEIGHBOUR: 'it returns false'. Refute it at one input. -/
def fnExactChordFlowsWrong : ChangeSpec := { name := "fnExactChordFlows", fn := fun _ => fun
  | [d1, d2] => { results := [.lit (.bool false)], args := [d1, d2] }
  | _ => none }
def FnExactChordFlowsWrongFalsely : Prop := fnExactChordFlowsRow.holds Try.pinned (OpenSpec.ofChange fnExactChordFlowsWrong)

/-- 'laws.FnBridges': WHATEVER THE INPUT: true; the input reads as it did. -/
def fnBridgesSpec : ChangeSpec := { name := "fnBridges", fn := fun _ => fun
  | [d] => { results := [.lit (.bool true)], args := [d] }
  | _ => none }
def fnBridgesRow : OpenClaim := { program := "ytdapdaadglaoiaa", sum := "77f4e7ef16a8bd123cda08edfa9e6024e9a114ce81b3a462dce3499901e6105a", func := "loop.example/g00852/laws.FnBridges", spec := "fnBridges", unfollowed := true, recurses := true, apart := false }
def FnBridgesSaid : Prop := fnBridgesRow.holds Try.pinned (OpenSpec.ofChange fnBridgesSpec)

/-- ITS FALSE NEIGHBOUR: 'it returns false'. Refute it at one input. -/
def fnBridgesWrong : ChangeSpec := { name := "fnBridges", fn := fun _ => fun
  | [d] => { results := [.lit (.bool false)], args := [d] }
  | _ => none }
def FnBridgesWrongFalsely : Prop := fnBridgesRow.holds Try.pinned (OpenSpec.ofChange fnBridgesWrong)

/-- 'laws.FnCycles': WHATEVER THE INPUT: true; the input reads as it did. -/
def fnCyclesSpec : ChangeSpec := { name := "fnCycles", fn := fun _ => fun
  | [d] => { results := [.lit (.bool true)], args := [d] }
  | _ => none }
def fnCyclesRow : OpenClaim := { program := "ytdapdaadglaoiaa", sum := "77f4e7ef16a8bd123cda08edfa9e6024e9a114ce81b3a462dce3499901e6105a", func := "loop.example/g00852/laws.FnCycles", spec := "fnCycles", unfollowed := true, recurses := true, apart := false }
def FnCyclesSaid : Prop := fnCyclesRow.holds Try.pinned (OpenSpec.ofChange fnCyclesSpec)

/-- ITS FALSE NEIGHBOUR: 'it returns false'. Refute it at one input. -/
def fnCyclesWrong : ChangeSpec := { name := "fnCycles", fn := fun _ => fun
  | [d] => { results := [.lit (.bool false)], args := [d] }
  | _ => none }
def FnCyclesWrongFalsely : Prop := fnCyclesRow.holds Try.pinned (OpenSpec.ofChange fnCyclesWrong)

/-- 'laws.FnExactCycleOf': WHATEVER THE INPUT: true; the input reads as it did. -/
def fnExactCycleOfSpec : ChangeSpec := { name := "fnExactCycleOf", fn := fun _ => fun
  | [d1, d2] => { results := [.lit (.bool true)], args := [d1, d2] }
  | _ => none }
def fnExactCycleOfRow : OpenClaim := { program := "ytdapdaadglaoiaa", sum := "77f4e7ef16a8bd123cda08edfa9e6024e9a114ce81b3a462dce3499901e6105a", func := "loop.example/g00852/laws.FnExactCycleOf", spec := "fnExactCycleOf", unfollowed := true, recurses := true, apart := false }
def FnExactCycleOfSaid : Prop := fnExactCycleOfRow.holds Try.pinned (OpenSpec.ofChange fnExactCycleOfSpec)

/-- ITS FALSE NEIGHBOUR: 'it returns false'. Refute it at one input. -/
def fnExactCycleOfWrong : ChangeSpec := { name := "fnExactCycleOf", fn := fun _ => fun
  | [d1, d2] => { results := [.lit (.bool false)], args := [d1, d2] }
  | _ => none }
def FnExactCycleOfWrongFalsely : Prop := fnExactCycleOfRow.holds Try.pinned (OpenSpec.ofChange fnExactCycleOfWrong)

/-- 'laws.FnFromChords': WHATEVER THE INPUT: true; the input reads as it did. -/
def fnFromChordsSpec : ChangeSpec := { name := "fnFromChords", fn := fun _ => fun
  | [d] => { results := [.lit (.bool true)], args := [d] }
  | _ => none }
def fnFromChordsRow : OpenClaim := { program := "ytdapdaadglaoiaa", sum := "77f4e7ef16a8bd123cda08edfa9e6024e9a114ce81b3a462dce3499901e6105a", func := "loop.example/g00852/laws.FnFromChords", spec := "fnFromChords", unfollowed := true, recurses := true, apart := false }
def FnFromChordsSaid : Prop := fnFromChordsRow.holds Try.pinned (OpenSpec.ofChange fnFromChordsSpec)

/-- ITS FALSE NEIGHBOUR: 'it returns false'. Refute it at one input. -/
def fnFromChordsWrong : ChangeSpec := { name := "fnFromChords", fn := fun _ => fun
  | [d] => { results := [.lit (.bool false)], args := [d] }
  | _ => none }
def FnFromChordsWrongFalsely : Prop := fnFromChordsRow.holds Try.pinned (OpenSpec.ofChange fnFromChordsWrong)

/-- 'laws.FnExactCycleBasis': WHATEVER THE INPUT: true; the input reads as it did. -/
def fnExactCycleBasisSpec : ChangeSpec := { name := "fnExactCycleBasis", fn := fun _ => fun
  | [d] => { results := [.lit (.bool true)], args := [d] }
  | _ => none }
def fnExactCycleBasisRow : OpenClaim := { program := "ytdapdaadglaoiaa", sum := "77f4e7ef16a8bd123cda08edfa9e6024e9a114ce81b3a462dce3499901e6105a", func := "loop.example/g00852/laws.FnExactCycleBasis", spec := "fnExactCycleBasis", unfollowed := true, recurses := true, apart := false }
def FnExactCycleBasisSaid : Prop := fnExactCycleBasisRow.holds Try.pinned (OpenSpec.ofChange fnExactCycleBasisSpec)

/-- ITS FALSE NEIGHBOUR: 'it returns false'. Refute it at one input. -/
def fnExactCycleBasisWrong : ChangeSpec := { name := "fnExactCycleBasis", fn := fun _ => fun
  | [d] => { results := [.lit (.bool false)], args := [d] }
  | _ => none }
def FnExactCycleBasisWrongFalsely : Prop := fnExactCycleBasisRow.holds Try.pinned (OpenSpec.ofChange fnExactCycleBasisWrong)

/-- 'laws.FnTurnedPipes': WHATEVER THE INPUT: true; the input reads as it did. -/
def fnTurnedPipesSpec : ChangeSpec := { name := "fnTurnedPipes", fn := fun _ => fun
  | [d] => { results := [.lit (.bool true)], args := [d] }
  | _ => none }
def fnTurnedPipesRow : OpenClaim := { program := "ytdapdaadglaoiaa", sum := "77f4e7ef16a8bd123cda08edfa9e6024e9a114ce81b3a462dce3499901e6105a", func := "loop.example/g00852/laws.FnTurnedPipes", spec := "fnTurnedPipes", unfollowed := true, recurses := true, apart := false }
def FnTurnedPipesSaid : Prop := fnTurnedPipesRow.holds Try.pinned (OpenSpec.ofChange fnTurnedPipesSpec)

/-- ITS FALSE NEIGHBOUR: 'it returns false'. Refute it at one input. -/
def fnTurnedPipesWrong : ChangeSpec := { name := "fnTurnedPipes", fn := fun _ => fun
  | [d] => { results := [.lit (.bool false)], args := [d] }
  | _ => none }
def FnTurnedPipesWrongFalsely : Prop := fnTurnedPipesRow.holds Try.pinned (OpenSpec.ofChange fnTurnedPipesWrong)

/-- 'laws.FnNames': WHATEVER THE INPUT: true; the input reads as it did. -/
def fnNamesSpec : ChangeSpec := { name := "fnNames", fn := fun _ => fun
  | [d] => { results := [.lit (.bool true)], args := [d] }
  | _ => none }
def fnNamesRow : OpenClaim := { program := "ytdapdaadglaoiaa", sum := "77f4e7ef16a8bd123cda08edfa9e6024e9a114ce81b3a462dce3499901e6105a", func := "loop.example/g00852/laws.FnNames", spec := "fnNames", unfollowed := true, recurses := true, apart := false }
def FnNamesSaid : Prop := fnNamesRow.holds Try.pinned (OpenSpec.ofChange fnNamesSpec)

/-- ITS FALSE NEIGHBOUR: 'it returns false'. Refute it at one input. -/
def fnNamesWrong : ChangeSpec := { name := "fnNames", fn := fun _ => fun
  | [d] => { results := [.lit (.bool false)], args := [d] }
  | _ => none }
def FnNamesWrongFalsely : Prop := fnNamesRow.holds Try.pinned (OpenSpec.ofChange fnNamesWrong)

/-- 'laws.FnDistances': WHATEVER THE INPUT: true; the input reads as it did. -/
def fnDistancesSpec : ChangeSpec := { name := "fnDistances", fn := fun _ => fun
  | [d] => { results := [.lit (.bool true)], args := [d] }
  | _ => none }
def fnDistancesRow : OpenClaim := { program := "ytdapdaadglaoiaa", sum := "77f4e7ef16a8bd123cda08edfa9e6024e9a114ce81b3a462dce3499901e6105a", func := "loop.example/g00852/laws.FnDistances", spec := "fnDistances", unfollowed := true, recurses := true, apart := false }
def FnDistancesSaid : Prop := fnDistancesRow.holds Try.pinned (OpenSpec.ofChange fnDistancesSpec)

/-- ITS FALSE NEIGHBOUR: 'it returns false'. Refute it at one input. -/
def fnDistancesWrong : ChangeSpec := { name := "fnDistances", fn := fun _ => fun
  | [d] => { results := [.lit (.bool false)], args := [d] }
  | _ => none }
def FnDistancesWrongFalsely : Prop := fnDistancesRow.holds Try.pinned (OpenSpec.ofChange fnDistancesWrong)

/-- 'laws.FnShortestPaths': WHATEVER THE INPUT: true; the input reads as it did. -/
def fnShortestPathsSpec : ChangeSpec := { name := "fnShortestPaths", fn := fun _ => fun
  | [d] => { results := [.lit (.bool true)], args := [d] }
  | _ => none }
def fnShortestPathsRow : OpenClaim := { program := "ytdapdaadglaoiaa", sum := "77f4e7ef16a8bd123cda08edfa9e6024e9a114ce81b3a462dce3499901e6105a", func := "loop.example/g00852/laws.FnShortestPaths", spec := "fnShortestPaths", unfollowed := true, recurses := true, apart := false }
def FnShortestPathsSaid : Prop := fnShortestPathsRow.holds Try.pinned (OpenSpec.ofChange fnShortestPathsSpec)

/-- ITS FALSE NEIGHBOUR: 'it returns false'. Refute it at one input. -/
def fnShortestPathsWrong : ChangeSpec := { name := "fnShortestPaths", fn := fun _ => fun
  | [d] => { results := [.lit (.bool false)], args := [d] }
  | _ => none }
def FnShortestPathsWrongFalsely : Prop := fnShortestPathsRow.holds Try.pinned (OpenSpec.ofChange fnShortestPathsWrong)

/-- 'laws.FnForests': WHATEVER THE INPUT: true; the input reads as it did. -/
def fnForestsSpec : ChangeSpec := { name := "fnForests", fn := fun _ => fun
  | [d] => { results := [.lit (.bool true)], args := [d] }
  | _ => none }
def fnForestsRow : OpenClaim := { program := "ytdapdaadglaoiaa", sum := "77f4e7ef16a8bd123cda08edfa9e6024e9a114ce81b3a462dce3499901e6105a", func := "loop.example/g00852/laws.FnForests", spec := "fnForests", unfollowed := true, recurses := true, apart := false }
def FnForestsSaid : Prop := fnForestsRow.holds Try.pinned (OpenSpec.ofChange fnForestsSpec)

/-- ITS FALSE NEIGHBOUR: 'it returns false'. Refute it at one input. -/
def fnForestsWrong : ChangeSpec := { name := "fnForests", fn := fun _ => fun
  | [d] => { results := [.lit (.bool false)], args := [d] }
  | _ => none }
def FnForestsWrongFalsely : Prop := fnForestsRow.holds Try.pinned (OpenSpec.ofChange fnForestsWrong)

/- THE SECOND FORM. 'bulk': how many values and letters a reading holds, each counted each time it is reached (what is shared counts as often as it is met; a slice's spare places count too). A statement '..UptoSaid' is the law's where the arguments, and the package variables that the reading takes, are together of bulk at most 1048576: NARROWER than '..Said'. Prove '..Said' where nothing that the law and all that it calls make is longer than what came in: it says more and counts as full. Else prove '..UptoSaid'. A law counts once. -/
mutual
def uptoBulk {H : Type} : DataW H → Nat
  | .lit (.string bytes) => bytes.length + 1
  | .lit _ => 1
  | .nil => 1
  | .ptr d => uptoBulk d + 1
  | .slice elems spare => uptoBulkAll elems + uptoBulkAll spare + 1
  | .agg parts => uptoBulkAll parts + 1
  | .iface _ d => uptoBulk d + 1
  | .map entries => uptoBulkEntries entries + 1
  | .held _ => 1
def uptoBulkAll {H : Type} : List (DataW H) → Nat
  | [] => 0
  | d :: r => uptoBulk d + uptoBulkAll r
def uptoBulkEntries {H : Type} : List (Lit × DataW H) → Nat
  | [] => 0
  | x :: r => uptoBulkEntry x + uptoBulkEntries r
def uptoBulkEntry {H : Type} : Lit × DataW H → Nat
  | (.string bytes, d) => bytes.length + uptoBulk d + 1
  | (_, d) => uptoBulk d + 1
 end
def uptoSmall : (H : Type) → List (DataW H) → Bool := fun _ ds => decide (uptoBulkAll ds ≤ 1048576)
def OpenSpec.upto (s : _root_.Go.ChangeSpec) : _root_.Go.OpenSpec := { _root_.Go.OpenSpec.ofChange s with cond := some uptoSmall }

/-- 'laws.FnPipeEnds', WHERE WHAT IT READS IS OF BULK AT MOST 1048576: true; the input reads as it did. -/
def fnPipeEndsUptoRow : OpenClaim := { program := "ytdapdaadglaoiaa", sum := "77f4e7ef16a8bd123cda08edfa9e6024e9a114ce81b3a462dce3499901e6105a", func := "loop.example/g00852/laws.FnPipeEnds", spec := "fnPipeEnds", unfollowed := true, recurses := true, apart := false, narrowed := true }
def FnPipeEndsUptoSaid : Prop := fnPipeEndsUptoRow.holds Try.pinned (OpenSpec.upto fnPipeEndsSpec)

/-- 'laws.FnNeighbours', WHERE WHAT IT READS IS OF BULK AT MOST 1048576: true; the input reads as it did. -/
def fnNeighboursUptoRow : OpenClaim := { program := "ytdapdaadglaoiaa", sum := "77f4e7ef16a8bd123cda08edfa9e6024e9a114ce81b3a462dce3499901e6105a", func := "loop.example/g00852/laws.FnNeighbours", spec := "fnNeighbours", unfollowed := true, recurses := true, apart := false, narrowed := true }
def FnNeighboursUptoSaid : Prop := fnNeighboursUptoRow.holds Try.pinned (OpenSpec.upto fnNeighboursSpec)

/-- 'laws.FnExactNeighboursOf', WHERE WHAT IT READS IS OF BULK AT MOST 1048576: true; the input reads as it did. -/
def fnExactNeighboursOfUptoRow : OpenClaim := { program := "ytdapdaadglaoiaa", sum := "77f4e7ef16a8bd123cda08edfa9e6024e9a114ce81b3a462dce3499901e6105a", func := "loop.example/g00852/laws.FnExactNeighboursOf", spec := "fnExactNeighboursOf", unfollowed := true, recurses := true, apart := false, narrowed := true }
def FnExactNeighboursOfUptoSaid : Prop := fnExactNeighboursOfUptoRow.holds Try.pinned (OpenSpec.upto fnExactNeighboursOfSpec)

/-- 'laws.FnExactChordsOf', WHERE WHAT IT READS IS OF BULK AT MOST 1048576: true; the input reads as it did. -/
def fnExactChordsOfUptoRow : OpenClaim := { program := "ytdapdaadglaoiaa", sum := "77f4e7ef16a8bd123cda08edfa9e6024e9a114ce81b3a462dce3499901e6105a", func := "loop.example/g00852/laws.FnExactChordsOf", spec := "fnExactChordsOf", unfollowed := true, recurses := true, apart := false, narrowed := true }
def FnExactChordsOfUptoSaid : Prop := fnExactChordsOfUptoRow.holds Try.pinned (OpenSpec.upto fnExactChordsOfSpec)

/-- 'laws.FnExactChordFlows', WHERE WHAT IT READS IS OF BULK AT MOST 1048576: true; the input reads as it did. -/
def fnExactChordFlowsUptoRow : OpenClaim := { program := "ytdapdaadglaoiaa", sum := "77f4e7ef16a8bd123cda08edfa9e6024e9a114ce81b3a462dce3499901e6105a", func := "loop.example/g00852/laws.FnExactChordFlows", spec := "fnExactChordFlows", unfollowed := true, recurses := true, apart := false, narrowed := true }
def FnExactChordFlowsUptoSaid : Prop := fnExactChordFlowsUptoRow.holds Try.pinned (OpenSpec.upto fnExactChordFlowsSpec)

/-- 'laws.FnBridges', WHERE WHAT IT READS IS OF BULK AT MOST 1048576: true; the input reads as it did. -/
def fnBridgesUptoRow : OpenClaim := { program := "ytdapdaadglaoiaa", sum := "77f4e7ef16a8bd123cda08edfa9e6024e9a114ce81b3a462dce3499901e6105a", func := "loop.example/g00852/laws.FnBridges", spec := "fnBridges", unfollowed := true, recurses := true, apart := false, narrowed := true }
def FnBridgesUptoSaid : Prop := fnBridgesUptoRow.holds Try.pinned (OpenSpec.upto fnBridgesSpec)

/-- 'laws.FnCycles', WHERE WHAT IT READS IS OF BULK AT MOST 1048576: true; the input reads as it did. -/
def fnCyclesUptoRow : OpenClaim := { program := "ytdapdaadglaoiaa", sum := "77f4e7ef16a8bd123cda08edfa9e6024e9a114ce81b3a462dce3499901e6105a", func := "loop.example/g00852/laws.FnCycles", spec := "fnCycles", unfollowed := true, recurses := true, apart := false, narrowed := true }
def FnCyclesUptoSaid : Prop := fnCyclesUptoRow.holds Try.pinned (OpenSpec.upto fnCyclesSpec)

/-- 'laws.FnExactCycleOf', WHERE WHAT IT READS IS OF BULK AT MOST 1048576: true; the input reads as it did. -/
def fnExactCycleOfUptoRow : OpenClaim := { program := "ytdapdaadglaoiaa", sum := "77f4e7ef16a8bd123cda08edfa9e6024e9a114ce81b3a462dce3499901e6105a", func := "loop.example/g00852/laws.FnExactCycleOf", spec := "fnExactCycleOf", unfollowed := true, recurses := true, apart := false, narrowed := true }
def FnExactCycleOfUptoSaid : Prop := fnExactCycleOfUptoRow.holds Try.pinned (OpenSpec.upto fnExactCycleOfSpec)

/-- 'laws.FnFromChords', WHERE WHAT IT READS IS OF BULK AT MOST 1048576: true; the input reads as it did. -/
def fnFromChordsUptoRow : OpenClaim := { program := "ytdapdaadglaoiaa", sum := "77f4e7ef16a8bd123cda08edfa9e6024e9a114ce81b3a462dce3499901e6105a", func := "loop.example/g00852/laws.FnFromChords", spec := "fnFromChords", unfollowed := true, recurses := true, apart := false, narrowed := true }
def FnFromChordsUptoSaid : Prop := fnFromChordsUptoRow.holds Try.pinned (OpenSpec.upto fnFromChordsSpec)

/-- 'laws.FnExactCycleBasis', WHERE WHAT IT READS IS OF BULK AT MOST 1048576: true; the input reads as it did. -/
def fnExactCycleBasisUptoRow : OpenClaim := { program := "ytdapdaadglaoiaa", sum := "77f4e7ef16a8bd123cda08edfa9e6024e9a114ce81b3a462dce3499901e6105a", func := "loop.example/g00852/laws.FnExactCycleBasis", spec := "fnExactCycleBasis", unfollowed := true, recurses := true, apart := false, narrowed := true }
def FnExactCycleBasisUptoSaid : Prop := fnExactCycleBasisUptoRow.holds Try.pinned (OpenSpec.upto fnExactCycleBasisSpec)

/-- 'laws.FnTurnedPipes', WHERE WHAT IT READS IS OF BULK AT MOST 1048576: true; the input reads as it did. -/
def fnTurnedPipesUptoRow : OpenClaim := { program := "ytdapdaadglaoiaa", sum := "77f4e7ef16a8bd123cda08edfa9e6024e9a114ce81b3a462dce3499901e6105a", func := "loop.example/g00852/laws.FnTurnedPipes", spec := "fnTurnedPipes", unfollowed := true, recurses := true, apart := false, narrowed := true }
def FnTurnedPipesUptoSaid : Prop := fnTurnedPipesUptoRow.holds Try.pinned (OpenSpec.upto fnTurnedPipesSpec)

/-- 'laws.FnNames', WHERE WHAT IT READS IS OF BULK AT MOST 1048576: true; the input reads as it did. -/
def fnNamesUptoRow : OpenClaim := { program := "ytdapdaadglaoiaa", sum := "77f4e7ef16a8bd123cda08edfa9e6024e9a114ce81b3a462dce3499901e6105a", func := "loop.example/g00852/laws.FnNames", spec := "fnNames", unfollowed := true, recurses := true, apart := false, narrowed := true }
def FnNamesUptoSaid : Prop := fnNamesUptoRow.holds Try.pinned (OpenSpec.upto fnNamesSpec)

/-- 'laws.FnDistances', WHERE WHAT IT READS IS OF BULK AT MOST 1048576: true; the input reads as it did. -/
def fnDistancesUptoRow : OpenClaim := { program := "ytdapdaadglaoiaa", sum := "77f4e7ef16a8bd123cda08edfa9e6024e9a114ce81b3a462dce3499901e6105a", func := "loop.example/g00852/laws.FnDistances", spec := "fnDistances", unfollowed := true, recurses := true, apart := false, narrowed := true }
def FnDistancesUptoSaid : Prop := fnDistancesUptoRow.holds Try.pinned (OpenSpec.upto fnDistancesSpec)

/-- 'laws.FnShortestPaths', WHERE WHAT IT READS IS OF BULK AT MOST 1048576: true; the input reads as it did. -/
def fnShortestPathsUptoRow : OpenClaim := { program := "ytdapdaadglaoiaa", sum := "77f4e7ef16a8bd123cda08edfa9e6024e9a114ce81b3a462dce3499901e6105a", func := "loop.example/g00852/laws.FnShortestPaths", spec := "fnShortestPaths", unfollowed := true, recurses := true, apart := false, narrowed := true }
def FnShortestPathsUptoSaid : Prop := fnShortestPathsUptoRow.holds Try.pinned (OpenSpec.upto fnShortestPathsSpec)

/-- 'laws.FnForests', WHERE WHAT IT READS IS OF BULK AT MOST 1048576: true; the input reads as it did. -/
def fnForestsUptoRow : OpenClaim := { program := "ytdapdaadglaoiaa", sum := "77f4e7ef16a8bd123cda08edfa9e6024e9a114ce81b3a462dce3499901e6105a", func := "loop.example/g00852/laws.FnForests", spec := "fnForests", unfollowed := true, recurses := true, apart := false, narrowed := true }
def FnForestsUptoSaid : Prop := fnForestsUptoRow.holds Try.pinned (OpenSpec.upto fnForestsSpec)

end Rows
end Go.Proofs.Ytdapdaadglaoiaa
