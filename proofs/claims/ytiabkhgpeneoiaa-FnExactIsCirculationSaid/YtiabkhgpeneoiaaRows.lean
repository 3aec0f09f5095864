/-
  No cell of these rows narrows 'for every input' (looked for: loops, veiled, ifaces, maps, wideKeys, modest, calm, conditions, laid).
  DERIVED. THE GIVEN ROWS OF THIS SEAT. 12 by the template 'for every input the law returns true; each argument reads behind the call as it read before'; 0 by the template 'total and deterministic' (their statements: YtiabkhgpeneoiaaTotals.lean).
  GIVEN WITH THE SEED: the statements are not yours to turn. If you find one false, say at which input.
  Laid BY PROGRAM, IN A SANDBOX (cutbox-rows.mjs): the forced cells as the released guide's own fill.sh prints them over the translation 1713249ce61ab90b… (all of the seat's roots in one cut). By AI agents, Wed Nov 11 2026. No macro, syntax, notation, axiom, sorry.
-/
import Derived.Test.YtiabkhgpeneoiaaChecked
import GoSem.Claim
import GoSem.ClaimJoined
import GoSem.ClaimMapViews
import Derived.JoinedTies
import Derived.KernelRfl
namespace Go.Proofs.Ytiabkhgpeneoiaa
/- THE CELL 'sum', in the pinned program and in every row, IS THE sha256 OF THE DUMP (.gsa) THAT YtiabkhgpeneoiaaProg.lean LOADS. Nothing in Lean hashes anything: it is a label: what it is worth is what the hold of that sum in a sandbox is worth. -/
noncomputable def Try.pinned : Pinned := { name := "ytiabkhgpeneoiaa", sum := "1713249ce61ab90ba2a72d2d717f38c0e178019cb6574494b8c7f0ff1ab04966", checked := Try.checked }
namespace Rows
def none {H : Type} : Left H := { results := [], args := [] }

/-- 'laws.FnExactIsNode': WHATEVER THE INPUT: true; the input reads as it did. -/
def fnExactIsNodeSpec : ChangeSpec := { name := "fnExactIsNode", fn := fun _ => fun
  | [d] => { results := [.lit (.bool true)], args := [d] }
  | _ => none }
def fnExactIsNodeRow : OpenClaim := { program := "ytiabkhgpeneoiaa", sum := "1713249ce61ab90ba2a72d2d717f38c0e178019cb6574494b8c7f0ff1ab04966", func := "loop.example/g00852/laws.FnExactIsNode", spec := "fnExactIsNode", apart := false }
def FnExactIsNodeSaid : Prop := fnExactIsNodeRow.holds Try.pinned (OpenSpec.ofChange fnExactIsNodeSpec)

/-- ITS FALSE NEIGHBOUR: 'it returns false'. Refute it at one input. -/
def fnExactIsNodeWrong : ChangeSpec := { name := "fnExactIsNode", fn := fun _ => fun
  | [d] => { results := [.lit (.bool false)], args := [d] }
  | _ => none }
def FnExactIsNodeWrongFalsely : Prop := fnExactIsNodeRow.holds Try.pinned (OpenSpec.ofChange fnExactIsNodeWrong)

/-- 'laws.FnExactIsNetwork': WHATEVER THE INPUT: true; the input reads as it did. -/
def fnExactIsNetworkSpec : ChangeSpec := { name := "fnExactIsNetwork", fn := fun _ => fun
  | [d] => { results := [.lit (.bool true)], args := [d] }
  | _ => none }
def fnExactIsNetworkRow : OpenClaim := { program := "ytiabkhgpeneoiaa", sum := "1713249ce61ab90ba2a72d2d717f38c0e178019cb6574494b8c7f0ff1ab04966", func := "loop.example/g00852/laws.FnExactIsNetwork", spec := "fnExactIsNetwork", unfollowed := true, recurses := true, apart := false }
def FnExactIsNetworkSaid : Prop := fnExactIsNetworkRow.holds Try.pinned (OpenSpec.ofChange fnExactIsNetworkSpec)

/-- ITS FALSE NEIGHBOUR: 'it returns false'. Refute it at one input. -/
def fnExactIsNetworkWrong : ChangeSpec := { name := "fnExactIsNetwork", fn := fun _ => fun
  | [d] => { results := [.lit (.bool false)], args := [d] }
  | _ => none }
def FnExactIsNetworkWrongFalsely : Prop := fnExactIsNetworkRow.holds Try.pinned (OpenSpec.ofChange fnExactIsNetworkWrong)

/-- 'laws.FnExactNodeNamed': WHATEVER THE INPUT: true; the input reads as it did. -/
def fnExactNodeNamedSpec : ChangeSpec := { name := "fnExactNodeNamed", fn := fun _ => fun
  | [d1, d2] => { results := [.lit (.bool true)], args := [d1, d2] }
  | _ => none }
def fnExactNodeNamedRow : OpenClaim := { program := "ytiabkhgpeneoiaa", sum := "1713249ce61ab90ba2a72d2d717f38c0e178019cb6574494b8c7f0ff1ab04966", func := "loop.example/g00852/laws.FnExactNodeNamed", spec := "fnExactNodeNamed", unfollowed := true, recurses := true, apart := false }
def FnExactNodeNamedSaid : Prop := fnExactNodeNamedRow.holds Try.pinned (OpenSpec.ofChange fnExactNodeNamedSpec)

/-- ITS FALSE NEIGHBOUR: 'it returns false'. Refute it at one input. -/
def fnExactNodeNamedWrong : ChangeSpec := { name := "fnExactNodeNamed", fn := fun _ => fun
  | [d1, d2] => { results := [.lit (.bool false)], args := [d1, d2] }
  | _ => none }
def FnExactNodeNamedWrongFalsely : Prop := fnExactNodeNamedRow.holds Try.pinned (OpenSpec.ofChange fnExactNodeNamedWrong)

/-- 'laws.FnNames': WHATEVER THE INPUT: true; the input reads as it did. -/
def fnNamesSpec : ChangeSpec := { name := "fnNames", fn := fun _ => fun
  | [d] => { results := [.lit (.bool true)], args := [d] }
  | _ => none }
def fnNamesRow : OpenClaim := { program := "ytiabkhgpeneoiaa", sum := "1713249ce61ab90ba2a72d2d717f38c0e178019cb6574494b8c7f0ff1ab04966", func := "loop.example/g00852/laws.FnNames", spec := "fnNames", unfollowed := true, recurses := true, apart := false }
def FnNamesSaid : Prop := fnNamesRow.holds Try.pinned (OpenSpec.ofChange fnNamesSpec)

/-- ITS FALSE NEIGHBOUR: 'it returns false'. Refute it at one input. -/
def fnNamesWrong : ChangeSpec := { name := "fnNames", fn := fun _ => fun
  | [d] => { results := [.lit (.bool false)], args := [d] }
  | _ => none }
def FnNamesWrongFalsely : Prop := fnNamesRow.holds Try.pinned (OpenSpec.ofChange fnNamesWrong)

/-- 'laws.FnExactOtherEnd': WHATEVER THE INPUT: true; the input reads as it did. -/
def fnExactOtherEndSpec : ChangeSpec := { name := "fnExactOtherEnd", fn := fun _ => fun
  | [d1, d2, d3] => { results := [.lit (.bool true)], args := [d1, d2, d3] }
  | _ => none }
def fnExactOtherEndRow : OpenClaim := { program := "ytiabkhgpeneoiaa", sum := "1713249ce61ab90ba2a72d2d717f38c0e178019cb6574494b8c7f0ff1ab04966", func := "loop.example/g00852/laws.FnExactOtherEnd", spec := "fnExactOtherEnd", unfollowed := true, recurses := true, apart := false }
def FnExactOtherEndSaid : Prop := fnExactOtherEndRow.holds Try.pinned (OpenSpec.ofChange fnExactOtherEndSpec)

/-- ITS FALSE NEIGHBOUR: 'it returns false'. Refute it at one input. -/
def fnExactOtherEndWrong : ChangeSpec := { name := "fnExactOtherEnd", fn := fun _ => fun
  | [d1, d2, d3] => { results := [.lit (.bool false)], args := [d1, d2, d3] }
  | _ => none }
def FnExactOtherEndWrongFalsely : Prop := fnExactOtherEndRow.holds Try.pinned (OpenSpec.ofChange fnExactOtherEndWrong)

/-- 'laws.FnTurnedPipes': WHATEVER THE INPUT: true; the input reads as it did. -/
def fnTurnedPipesSpec : ChangeSpec := { name := "fnTurnedPipes", fn := fun _ => fun
  | [d] => { results := [.lit (.bool true)], args := [d] }
  | _ => none }
def fnTurnedPipesRow : OpenClaim := { program := "ytiabkhgpeneoiaa", sum := "1713249ce61ab90ba2a72d2d717f38c0e178019cb6574494b8c7f0ff1ab04966", func := "loop.example/g00852/laws.FnTurnedPipes", spec := "fnTurnedPipes", unfollowed := true, recurses := true, apart := false }
def FnTurnedPipesSaid : Prop := fnTurnedPipesRow.holds Try.pinned (OpenSpec.ofChange fnTurnedPipesSpec)

/-- ITS FALSE NEIGHBOUR: 'it returns false'. Refute it at one input. -/
def fnTurnedPipesWrong : ChangeSpec := { name := "fnTurnedPipes", fn := fun _ => fun
  | [d] => { results := [.lit (.bool false)], args := [d] }
  | _ => none }
def FnTurnedPipesWrongFalsely : Prop := fnTurnedPipesRow.holds Try.pinned (OpenSpec.ofChange fnTurnedPipesWrong)

/-- 'laws.FnExactIsCirculation': WHATEVER THE INPUT: true; the input reads as it did. -/
def fnExactIsCirculationSpec : ChangeSpec := { name := "fnExactIsCirculation", fn := fun _ => fun
  | [d1, d2] => { results := [.lit (.bool true)], args := [d1, d2] }
  | _ => none }
def fnExactIsCirculationRow : OpenClaim := { program := "ytiabkhgpeneoiaa", sum := "1713249ce61ab90ba2a72d2d717f38c0e178019cb6574494b8c7f0ff1ab04966", func := "loop.example/g00852/laws.FnExactIsCirculation", spec := "fnExactIsCirculation", unfollowed := true, recurses := true, apart := false }
def FnExactIsCirculationSaid : Prop := fnExactIsCirculationRow.holds Try.pinned (OpenSpec.ofChange fnExactIsCirculationSpec)

/-- ITS FALSE NEIGHBOUR: 'it returns false'. Refute it at one input. -/
def fnExactIsCirculationWrong : ChangeSpec := { name := "fnExactIsCirculation", fn := fun _ => fun
  | [d1, d2] => { results := [.lit (.bool false)], args := [d1, d2] }
  | _ => none }
def FnExactIsCirculationWrongFalsely : Prop := fnExactIsCirculationRow.holds Try.pinned (OpenSpec.ofChange fnExactIsCirculationWrong)

/-- 'laws.FnExactPipesBetween': WHATEVER THE INPUT: true; the input reads as it did. -/
def fnExactPipesBetweenSpec : ChangeSpec := { name := "fnExactPipesBetween", fn := fun _ => fun
  | [d1, d2, d3] => { results := [.lit (.bool true)], args := [d1, d2, d3] }
  | _ => none }
def fnExactPipesBetweenRow : OpenClaim := { program := "ytiabkhgpeneoiaa", sum := "1713249ce61ab90ba2a72d2d717f38c0e178019cb6574494b8c7f0ff1ab04966", func := "loop.example/g00852/laws.FnExactPipesBetween", spec := "fnExactPipesBetween", unfollowed := true, recurses := true, apart := false }
def FnExactPipesBetweenSaid : Prop := fnExactPipesBetweenRow.holds Try.pinned (OpenSpec.ofChange fnExactPipesBetweenSpec)

/-- ITS FALSE NEIGHBOUR: 'it returns false'. Refute it at one input. -/
def fnExactPipesBetweenWrong : ChangeSpec := { name := "fnExactPipesBetween", fn := fun _ => fun
  | [d1, d2, d3] => { results := [.lit (.bool false)], args := [d1, d2, d3] }
  | _ => none }
def FnExactPipesBetweenWrongFalsely : Prop := fnExactPipesBetweenRow.holds Try.pinned (OpenSpec.ofChange fnExactPipesBetweenWrong)

/-- 'laws.FnExactPipesAt': WHATEVER THE INPUT: true; the input reads as it did. -/
def fnExactPipesAtSpec : ChangeSpec := { name := "fnExactPipesAt", fn := fun _ => fun
  | [d1, d2] => { results := [.lit (.bool true)], args := [d1, d2] }
  | _ => none }
def fnExactPipesAtRow : OpenClaim := { program := "ytiabkhgpeneoiaa", sum := "1713249ce61ab90ba2a72d2d717f38c0e178019cb6574494b8c7f0ff1ab04966", func := "loop.example/g00852/laws.FnExactPipesAt", spec := "fnExactPipesAt", unfollowed := true, recurses := true, apart := false }
def FnExactPipesAtSaid : Prop := fnExactPipesAtRow.holds Try.pinned (OpenSpec.ofChange fnExactPipesAtSpec)

/-- ITS FALSE NEIGHBOUR: 'it returns false'. Refute it at one input. -/
def fnExactPipesAtWrong : ChangeSpec := { name := "fnExactPipesAt", fn := fun _ => fun
  | [d1, d2] => { results := [.lit (.bool false)], args := [d1, d2] }
  | _ => none }
def FnExactPipesAtWrongFalsely : Prop := fnExactPipesAtRow.holds Try.pinned (OpenSpec.ofChange fnExactPipesAtWrong)

/-- 'laws.FnExactTurnPipe': WHATEVER THE INPUT: true; the input reads as it did. -/
def fnExactTurnPipeSpec : ChangeSpec := { name := "fnExactTurnPipe", fn := fun _ => fun
  | [d1, d2] => { results := [.lit (.bool true)], args := [d1, d2] }
  | _ => none }
def fnExactTurnPipeRow : OpenClaim := { program := "ytiabkhgpeneoiaa", sum := "1713249ce61ab90ba2a72d2d717f38c0e178019cb6574494b8c7f0ff1ab04966", func := "loop.example/g00852/laws.FnExactTurnPipe", spec := "fnExactTurnPipe", unfollowed := true, recurses := true, apart := false }
def FnExactTurnPipeSaid : Prop := fnExactTurnPipeRow.holds Try.pinned (OpenSpec.ofChange fnExactTurnPipeSpec)

/-- ITS FALSE NEIGHBOUR: 'it returns false'. Refute it at one input. -/
def fnExactTurnPipeWrong : ChangeSpec := { name := "fnExactTurnPipe", fn := fun _ => fun
  | [d1, d2] => { results := [.lit (.bool false)], args := [d1, d2] }
  | _ => none }
def FnExactTurnPipeWrongFalsely : Prop := fnExactTurnPipeRow.holds Try.pinned (OpenSpec.ofChange fnExactTurnPipeWrong)

/-- 'laws.FnExactWithoutPipe': WHATEVER THE INPUT: true; the input reads as it did. -/
def fnExactWithoutPipeSpec : ChangeSpec := { name := "fnExactWithoutPipe", fn := fun _ => fun
  | [d1, d2] => { results := [.lit (.bool true)], args := [d1, d2] }
  | _ => none }
def fnExactWithoutPipeRow : OpenClaim := { program := "ytiabkhgpeneoiaa", sum := "1713249ce61ab90ba2a72d2d717f38c0e178019cb6574494b8c7f0ff1ab04966", func := "loop.example/g00852/laws.FnExactWithoutPipe", spec := "fnExactWithoutPipe", unfollowed := true, recurses := true, apart := false }
def FnExactWithoutPipeSaid : Prop := fnExactWithoutPipeRow.holds Try.pinned (OpenSpec.ofChange fnExactWithoutPipeSpec)

/-- ITS FALSE NEIGHBOUR: 'it returns false'. Refute it at one input. -/
def fnExactWithoutPipeWrong : ChangeSpec := { name := "fnExactWithoutPipe", fn := fun _ => fun
  | [d1, d2] => { results := [.lit (.bool false)], args := [d1, d2] }
  | _ => none }
def FnExactWithoutPipeWrongFalsely : Prop := fnExactWithoutPipeRow.holds Try.pinned (OpenSpec.ofChange fnExactWithoutPipeWrong)

/-- 'laws.FnExactRenameNode': WHATEVER THE INPUT: true; the input reads as it did. -/
def fnExactRenameNodeSpec : ChangeSpec := { name := "fnExactRenameNode", fn := fun _ => fun
  | [d1, d2, d3] => { results := [.lit (.bool true)], args := [d1, d2, d3] }
  | _ => none }
def fnExactRenameNodeRow : OpenClaim := { program := "ytiabkhgpeneoiaa", sum := "1713249ce61ab90ba2a72d2d717f38c0e178019cb6574494b8c7f0ff1ab04966", func := "loop.example/g00852/laws.FnExactRenameNode", spec := "fnExactRenameNode", unfollowed := true, recurses := true, apart := false }
def FnExactRenameNodeSaid : Prop := fnExactRenameNodeRow.holds Try.pinned (OpenSpec.ofChange fnExactRenameNodeSpec)

/-- ITS FALSE NEIGHBOUR: 'it returns false'. Refute it at one input. -/
def fnExactRenameNodeWrong : ChangeSpec := { name := "fnExactRenameNode", fn := fun _ => fun
  | [d1, d2, d3] => { results := [.lit (.bool false)], args := [d1, d2, d3] }
  | _ => none }
def FnExactRenameNodeWrongFalsely : Prop := fnExactRenameNodeRow.holds Try.pinned (OpenSpec.ofChange fnExactRenameNodeWrong)

/- THE SECOND FORM. 'bulk': how many values and letters a reading holds, each counted each time it is reached (what is shared counts as often as it is met; a slice's spare places count too). A statement '..UptoSaid' is the law's where the arguments, and the package variables that the reading takes, are together of bulk at most 1048576: NARROWER than '..Said'. Prove '..Said' where nothing that the law and all that it calls make is longer than what came in: it says more and counts as full. Else prove '..UptoSaid'. A law counts once. -/
mutual
def uptoBulk {H : Type} : DataW H → Nat
  | .lit (.string bytes) => bytes.length + 1
  | .lit _ => 1
  | .nil => 1
  | .ptr d => uptoBulk d + 1
  | .slice elems spare => uptoBulkAll elems + uptoBulkAll spare + 1
  | .agg parts => uptoBulkAll parts + 1
  | .iface _ d => uptoBulk d + 1
  | .map entries => uptoBulkEntries entries + 1
  | .held _ => 1
def uptoBulkAll {H : Type} : List (DataW H) → Nat
  | [] => 0
  | d :: r => uptoBulk d + uptoBulkAll r
def uptoBulkEntries {H : Type} : List (Lit × DataW H) → Nat
  | [] => 0
  | x :: r => uptoBulkEntry x + uptoBulkEntries r
def uptoBulkEntry {H : Type} : Lit × DataW H → Nat
  | (.string bytes, d) => bytes.length + uptoBulk d + 1
  | (_, d) => uptoBulk d + 1
 end
def uptoSmall : (H : Type) → List (DataW H) → Bool := fun _ ds => decide (uptoBulkAll ds ≤ 1048576)
def OpenSpec.upto (s : _root_.Go.ChangeSpec) : _root_.Go.OpenSpec := { _root_.Go.OpenSpec.ofChange s with cond := some uptoSmall }

/-- 'laws.FnExactIsNode', WHERE WHAT IT READS IS OF BULK AT MOST 1048576: true; the input reads as it did. -/
def fnExactIsNodeUptoRow : OpenClaim := { program := "ytiabkhgpeneoiaa", sum := "1713249ce61ab90ba2a72d2d717f38c0e178019cb6574494b8c7f0ff1ab04966", func := "loop.example/g00852/laws.FnExactIsNode", spec := "fnExactIsNode", apart := false, narrowed := true }
def FnExactIsNodeUptoSaid : Prop := fnExactIsNodeUptoRow.holds Try.pinned (OpenSpec.upto fnExactIsNodeSpec)

/-- 'laws.FnExactIsNetwork', WHERE WHAT IT READS IS OF BULK AT MOST 1048576: true; the input reads as it did. -/
def fnExactIsNetworkUptoRow : OpenClaim := { program := "ytiabkhgpeneoiaa", sum := "1713249ce61ab90ba2a72d2d717f38c0e178019cb6574494b8c7f0ff1ab04966", func := "loop.example/g00852/laws.FnExactIsNetwork", spec := "fnExactIsNetwork", unfollowed := true, recurses := true, apart := false, narrowed := true }
def FnExactIsNetworkUptoSaid : Prop := fnExactIsNetworkUptoRow.holds Try.pinned (OpenSpec.upto fnExactIsNetworkSpec)

/-- 'laws.FnExactNodeNamed', WHERE WHAT IT READS IS OF BULK AT MOST 1048576: true; the input reads as it did. -/
def fnExactNodeNamedUptoRow : OpenClaim := { program := "ytiabkhgpeneoiaa", sum := "1713249ce61ab90ba2a72d2d717f38c0e178019cb6574494b8c7f0ff1ab04966", func := "loop.example/g00852/laws.FnExactNodeNamed", spec := "fnExactNodeNamed", unfollowed := true, recurses := true, apart := false, narrowed := true }
def FnExactNodeNamedUptoSaid : Prop := fnExactNodeNamedUptoRow.holds Try.pinned (OpenSpec.upto fnExactNodeNamedSpec)

/-- 'laws.FnNames', WHERE WHAT IT READS IS OF BULK AT MOST 1048576: true; the input reads as it did. -/
def fnNamesUptoRow : OpenClaim := { program := "ytiabkhgpeneoiaa", sum := "1713249ce61ab90ba2a72d2d717f38c0e178019cb6574494b8c7f0ff1ab04966", func := "loop.example/g00852/laws.FnNames", spec := "fnNames", unfollowed := true, recurses := true, apart := false, narrowed := true }
def FnNamesUptoSaid : Prop := fnNamesUptoRow.holds Try.pinned (OpenSpec.upto fnNamesSpec)

/-- 'laws.FnExactOtherEnd', WHERE WHAT IT READS IS OF BULK AT MOST 1048576: true; the input reads as it did. -/
def fnExactOtherEndUptoRow : OpenClaim := { program := "ytiabkhgpeneoiaa", sum := "1713249ce61ab90ba2a72d2d717f38c0e178019cb6574494b8c7f0ff1ab04966", func := "loop.example/g00852/laws.FnExactOtherEnd", spec := "fnExactOtherEnd", unfollowed := true, recurses := true, apart := false, narrowed := true }
def FnExactOtherEndUptoSaid : Prop := fnExactOtherEndUptoRow.holds Try.pinned (OpenSpec.upto fnExactOtherEndSpec)

/-- 'laws.FnTurnedPipes', WHERE WHAT IT READS IS OF BULK AT MOST 1048576: true; the input reads as it did. -/
def fnTurnedPipesUptoRow : OpenClaim := { program := "ytiabkhgpeneoiaa", sum := "1713249ce61ab90ba2a72d2d717f38c0e178019cb6574494b8c7f0ff1ab04966", func := "loop.example/g00852/laws.FnTurnedPipes", spec := "fnTurnedPipes", unfollowed := true, recurses := true, apart := false, narrowed := true }
def FnTurnedPipesUptoSaid : Prop := fnTurnedPipesUptoRow.holds Try.pinned (OpenSpec.upto fnTurnedPipesSpec)

/-- 'laws.FnExactIsCirculation', WHERE WHAT IT READS IS OF BULK AT MOST 1048576: true; the input reads as it did. -/
def fnExactIsCirculationUptoRow : OpenClaim := { program := "ytiabkhgpeneoiaa", sum := "1713249ce61ab90ba2a72d2d717f38c0e178019cb6574494b8c7f0ff1ab04966", func := "loop.example/g00852/laws.FnExactIsCirculation", spec := "fnExactIsCirculation", unfollowed := true, recurses := true, apart := false, narrowed := true }
def FnExactIsCirculationUptoSaid : Prop := fnExactIsCirculationUptoRow.holds Try.pinned (OpenSpec.upto fnExactIsCirculationSpec)

/-- 'laws.FnExactPipesBetween', WHERE WHAT IT READS IS OF BULK AT MOST 1048576: true; the input reads as it did. -/
def fnExactPipesBetweenUptoRow : OpenClaim := { program := "ytiabkhgpeneoiaa", sum := "1713249ce61ab90ba2a72d2d717f38c0e178019cb6574494b8c7f0ff1ab04966", func := "loop.example/g00852/laws.FnExactPipesBetween", spec := "fnExactPipesBetween", unfollowed := true, recurses := true, apart := false, narrowed := true }
def FnExactPipesBetweenUptoSaid : Prop := fnExactPipesBetweenUptoRow.holds Try.pinned (OpenSpec.upto fnExactPipesBetweenSpec)

/-- 'laws.FnExactPipesAt', WHERE WHAT IT READS IS OF BULK AT MOST 1048576: true; the input reads as it did. -/
def fnExactPipesAtUptoRow : OpenClaim := { program := "ytiabkhgpeneoiaa", sum := "1713249ce61ab90ba2a72d2d717f38c0e178019cb6574494b8c7f0ff1ab04966", func := "loop.example/g00852/laws.FnExactPipesAt", spec := "fnExactPipesAt", unfollowed := true, recurses := true, apart := false, narrowed := true }
def FnExactPipesAtUptoSaid : Prop := fnExactPipesAtUptoRow.holds Try.pinned (OpenSpec.upto fnExactPipesAtSpec)

/-- 'laws.FnExactTurnPipe', WHERE WHAT IT READS IS OF BULK AT MOST 1048576: true; the input reads as it did. -/
def fnExactTurnPipeUptoRow : OpenClaim := { program := "ytiabkhgpeneoiaa", sum := "1713249ce61ab90ba2a72d2d717f38c0e178019cb6574494b8c7f0ff1ab04966", func := "loop.example/g00852/laws.FnExactTurnPipe", spec := "fnExactTurnPipe", unfollowed := true, recurses := true, apart := false, narrowed := true }
def FnExactTurnPipeUptoSaid : Prop := fnExactTurnPipeUptoRow.holds Try.pinned (OpenSpec.upto fnExactTurnPipeSpec)

/-- 'laws.FnExactWithoutPipe', WHERE WHAT IT READS IS OF BULK AT MOST 1048576: true; the input reads as it did. -/
def fnExactWithoutPipeUptoRow : OpenClaim := { program := "ytiabkhgpeneoiaa", sum := "1713249ce61ab90ba2a72d2d717f38c0e178019cb6574494b8c7f0ff1ab04966", func := "loop.example/g00852/laws.FnExactWithoutPipe", spec := "fnExactWithoutPipe", unfollowed := true, recurses := true, apart := false, narrowed := true }
def FnExactWithoutPipeUptoSaid : Prop := fnExactWithoutPipeUptoRow.holds Try.pinned (OpenSpec.upto fnExactWithoutPipeSpec)

/-- 'laws.FnExactRenameNode', WHERE WHAT IT READS IS OF BULK AT MOST 1048576: true; the input reads as it did. -/
def fnExactRenameNodeUptoRow : OpenClaim := { program := "ytiabkhgpeneoiaa", sum := "1713249ce61ab90ba2a72d2d717f38c0e178019cb6574494b8c7f0ff1ab04966", func := "loop.example/g00852/laws.FnExactRenameNode", spec := "fnExactRenameNode", unfollowed := true, recurses := true, apart := false, narrowed := true }
def FnExactRenameNodeUptoSaid : Prop := fnExactRenameNodeUptoRow.holds Try.pinned (OpenSpec.upto fnExactRenameNodeSpec)

end Rows
end Go.Proofs.Ytiabkhgpeneoiaa
