/-
  No cell of these rows narrows 'for every input' (looked for: loops, veiled, ifaces, maps, wideKeys, modest, calm, conditions, laid).
  DERIVED. THE GIVEN ROWS OF THIS SEAT. 13 by the template 'for every input the law returns true; each argument reads behind the call as it read before'; 0 by the template 'total and deterministic' (their statements: YthbihlbbejcpcaaTotals.lean).
  GIVEN WITH THE SEED: the statements are not yours to turn. If you find one false, say at which input.
  Laid BY PROGRAM, IN A SANDBOX (cutbox-rows.mjs): the forced cells as the released guide's own fill.sh prints them over the translation 414cd18b046804ed… (all of the seat's roots in one cut). By AI agents, Wed Nov 11 2026. No macro, syntax, notation, axiom, sorry.
-/
import Derived.Test.YthbihlbbejcpcaaChecked
import GoSem.Claim
import GoSem.ClaimJoined
import GoSem.ClaimMapViews
import Derived.JoinedTies
import Derived.KernelRfl
namespace Go.Proofs.Ythbihlbbejcpcaa
/- THE CELL 'sum', in the pinned program and in every row, IS THE sha256 OF THE DUMP (.gsa) THAT YthbihlbbejcpcaaProg.lean LOADS. Nothing in Lean hashes anything: it is a label: what it is worth is what the hold of that sum in a sandbox is worth. -/
noncomputable def Try.pinned : Pinned := { name := "ythbihlbbejcpcaa", sum := "414cd18b046804ed1b95145772ea3eb514fb143b4ae80aa8770cda7ec146908a", checked := Try.checked }
namespace Rows
def none {H : Type} : Left H := { results := [], args := [] }

/-- 'laws.FnExactConstants': WHATEVER THE INPUT: true; the input reads as it did. -/
def fnExactConstantsSpec : ChangeSpec := { name := "fnExactConstants", fn := fun _ => fun
  | [] => { results := [.lit (.bool true)], args := [] }
  | _ => none }
def fnExactConstantsRow : OpenClaim := { program := "ythbihlbbejcpcaa", sum := "414cd18b046804ed1b95145772ea3eb514fb143b4ae80aa8770cda7ec146908a", func := "loop.example/g00852/laws.FnExactConstants", spec := "fnExactConstants", apart := false }
def FnExactConstantsSaid : Prop := fnExactConstantsRow.holds Try.pinned (OpenSpec.ofChange fnExactConstantsSpec)

/-- ITS FALSE NEIGHBOUR: 'it returns false'. Refute it at one input. -/
def fnExactConstantsWrong : ChangeSpec := { name := "fnExactConstants", fn := fun _ => fun
  | [] => { results := [.lit (.bool false)], args := [] }
  | _ => none }
def FnExactConstantsWrongFalsely : Prop := fnExactConstantsRow.holds Try.pinned (OpenSpec.ofChange fnExactConstantsWrong)

/-- 'laws.FnExactSignedSquare': WHATEVER THE INPUT: true; the input reads as it did. -/
def fnExactSignedSquareSpec : ChangeSpec := { name := "fnExactSignedSquare", fn := fun _ => fun
  | [d] => { results := [.lit (.bool true)], args := [d] }
  | _ => none }
def fnExactSignedSquareRow : OpenClaim := { program := "ythbihlbbejcpcaa", sum := "414cd18b046804ed1b95145772ea3eb514fb143b4ae80aa8770cda7ec146908a", func := "loop.example/g00852/laws.FnExactSignedSquare", spec := "fnExactSignedSquare", apart := false }
def FnExactSignedSquareSaid : Prop := fnExactSignedSquareRow.holds Try.pinned (OpenSpec.ofChange fnExactSignedSquareSpec)

/-- ITS FALSE NEIGHBOUR: 'it returns false'. Refute it at one input. -/
def fnExactSignedSquareWrong : ChangeSpec := { name := "fnExactSignedSquare", fn := fun _ => fun
  | [d] => { results := [.lit (.bool false)], args := [d] }
  | _ => none }
def FnExactSignedSquareWrongFalsely : Prop := fnExactSignedSquareRow.holds Try.pinned (OpenSpec.ofChange fnExactSignedSquareWrong)

/-- 'laws.FnExactFloorDiv': WHATEVER THE INPUT: true; the input reads as it did. -/
def fnExactFloorDivSpec : ChangeSpec := { name := "fnExactFloorDiv", fn := fun _ => fun
  | [d1, d2] => { results := [.lit (.bool true)], args := [d1, d2] }
  | _ => none }
def fnExactFloorDivRow : OpenClaim := { program := "ythbihlbbejcpcaa", sum := "414cd18b046804ed1b95145772ea3eb514fb143b4ae80aa8770cda7ec146908a", func := "loop.example/g00852/laws.FnExactFloorDiv", spec := "fnExactFloorDiv", apart := false }
def FnExactFloorDivSaid : Prop := fnExactFloorDivRow.holds Try.pinned (OpenSpec.ofChange fnExactFloorDivSpec)

/-- ITS FALSE NEIGHBOUR: 'it returns false'. Refute it at one input. -/
def fnExactFloorDivWrong : ChangeSpec := { name := "fnExactFloorDiv", fn := fun _ => fun
  | [d1, d2] => { results := [.lit (.bool false)], args := [d1, d2] }
  | _ => none }
def FnExactFloorDivWrongFalsely : Prop := fnExactFloorDivRow.holds Try.pinned (OpenSpec.ofChange fnExactFloorDivWrong)

/-- 'laws.FnExactMulDiv': WHATEVER THE INPUT: true; the input reads as it did. -/
def fnExactMulDivSpec : ChangeSpec := { name := "fnExactMulDiv", fn := fun _ => fun
  | [d1, d2, d3] => { results := [.lit (.bool true)], args := [d1, d2, d3] }
  | _ => none }
def fnExactMulDivRow : OpenClaim := { program := "ythbihlbbejcpcaa", sum := "414cd18b046804ed1b95145772ea3eb514fb143b4ae80aa8770cda7ec146908a", func := "loop.example/g00852/laws.FnExactMulDiv", spec := "fnExactMulDiv", apart := false }
def FnExactMulDivSaid : Prop := fnExactMulDivRow.holds Try.pinned (OpenSpec.ofChange fnExactMulDivSpec)

/-- ITS FALSE NEIGHBOUR: 'it returns false'. Refute it at one input. -/
def fnExactMulDivWrong : ChangeSpec := { name := "fnExactMulDiv", fn := fun _ => fun
  | [d1, d2, d3] => { results := [.lit (.bool false)], args := [d1, d2, d3] }
  | _ => none }
def FnExactMulDivWrongFalsely : Prop := fnExactMulDivRow.holds Try.pinned (OpenSpec.ofChange fnExactMulDivWrong)

/-- 'laws.FnExactNearestDiv': WHATEVER THE INPUT: true; the input reads as it did. -/
def fnExactNearestDivSpec : ChangeSpec := { name := "fnExactNearestDiv", fn := fun _ => fun
  | [d1, d2] => { results := [.lit (.bool true)], args := [d1, d2] }
  | _ => none }
def fnExactNearestDivRow : OpenClaim := { program := "ythbihlbbejcpcaa", sum := "414cd18b046804ed1b95145772ea3eb514fb143b4ae80aa8770cda7ec146908a", func := "loop.example/g00852/laws.FnExactNearestDiv", spec := "fnExactNearestDiv", apart := false }
def FnExactNearestDivSaid : Prop := fnExactNearestDivRow.holds Try.pinned (OpenSpec.ofChange fnExactNearestDivSpec)

/-- ITS FALSE NEIGHBOUR: 'it returns false'. Refute it at one input. -/
def fnExactNearestDivWrong : ChangeSpec := { name := "fnExactNearestDiv", fn := fun _ => fun
  | [d1, d2] => { results := [.lit (.bool false)], args := [d1, d2] }
  | _ => none }
def FnExactNearestDivWrongFalsely : Prop := fnExactNearestDivRow.holds Try.pinned (OpenSpec.ofChange fnExactNearestDivWrong)

/-- 'laws.FnMulDiv': WHATEVER THE INPUT: true; the input reads as it did. -/
def fnMulDivSpec : ChangeSpec := { name := "fnMulDiv", fn := fun _ => fun
  | [d] => { results := [.lit (.bool true)], args := [d] }
  | _ => none }
def fnMulDivRow : OpenClaim := { program := "ythbihlbbejcpcaa", sum := "414cd18b046804ed1b95145772ea3eb514fb143b4ae80aa8770cda7ec146908a", func := "loop.example/g00852/laws.FnMulDiv", spec := "fnMulDiv", apart := false }
def FnMulDivSaid : Prop := fnMulDivRow.holds Try.pinned (OpenSpec.ofChange fnMulDivSpec)

/-- ITS FALSE NEIGHBOUR: 'it returns false'. Refute it at one input. -/
def fnMulDivWrong : ChangeSpec := { name := "fnMulDiv", fn := fun _ => fun
  | [d] => { results := [.lit (.bool false)], args := [d] }
  | _ => none }
def FnMulDivWrongFalsely : Prop := fnMulDivRow.holds Try.pinned (OpenSpec.ofChange fnMulDivWrong)

/-- 'laws.FnDivisions': WHATEVER THE INPUT: true; the input reads as it did. -/
def fnDivisionsSpec : ChangeSpec := { name := "fnDivisions", fn := fun _ => fun
  | [d] => { results := [.lit (.bool true)], args := [d] }
  | _ => none }
def fnDivisionsRow : OpenClaim := { program := "ythbihlbbejcpcaa", sum := "414cd18b046804ed1b95145772ea3eb514fb143b4ae80aa8770cda7ec146908a", func := "loop.example/g00852/laws.FnDivisions", spec := "fnDivisions", apart := false }
def FnDivisionsSaid : Prop := fnDivisionsRow.holds Try.pinned (OpenSpec.ofChange fnDivisionsSpec)

/-- ITS FALSE NEIGHBOUR: 'it returns false'. Refute it at one input. -/
def fnDivisionsWrong : ChangeSpec := { name := "fnDivisions", fn := fun _ => fun
  | [d] => { results := [.lit (.bool false)], args := [d] }
  | _ => none }
def FnDivisionsWrongFalsely : Prop := fnDivisionsRow.holds Try.pinned (OpenSpec.ofChange fnDivisionsWrong)

/-- 'laws.FnExactRootOf': WHATEVER THE INPUT: true; the input reads as it did. -/
def fnExactRootOfSpec : ChangeSpec := { name := "fnExactRootOf", fn := fun _ => fun
  | [d] => { results := [.lit (.bool true)], args := [d] }
  | _ => none }
def fnExactRootOfRow : OpenClaim := { program := "ythbihlbbejcpcaa", sum := "414cd18b046804ed1b95145772ea3eb514fb143b4ae80aa8770cda7ec146908a", func := "loop.example/g00852/laws.FnExactRootOf", spec := "fnExactRootOf", inPlace := ["math.sqrt"], apart := false }
def FnExactRootOfSaid : Prop := fnExactRootOfRow.holds Try.pinned (OpenSpec.ofChange fnExactRootOfSpec)

/-- ITS FALSE NEIGHBOUR: 'it returns false'. Refute it at one input. -/
def fnExactRootOfWrong : ChangeSpec := { name := "fnExactRootOf", fn := fun _ => fun
  | [d] => { results := [.lit (.bool false)], args := [d] }
  | _ => none }
def FnExactRootOfWrongFalsely : Prop := fnExactRootOfRow.holds Try.pinned (OpenSpec.ofChange fnExactRootOfWrong)

/-- 'laws.FnExactSignedRoot': WHATEVER THE INPUT: true; the input reads as it did. -/
def fnExactSignedRootSpec : ChangeSpec := { name := "fnExactSignedRoot", fn := fun _ => fun
  | [d] => { results := [.lit (.bool true)], args := [d] }
  | _ => none }
def fnExactSignedRootRow : OpenClaim := { program := "ythbihlbbejcpcaa", sum := "414cd18b046804ed1b95145772ea3eb514fb143b4ae80aa8770cda7ec146908a", func := "loop.example/g00852/laws.FnExactSignedRoot", spec := "fnExactSignedRoot", inPlace := ["math.sqrt"], apart := false }
def FnExactSignedRootSaid : Prop := fnExactSignedRootRow.holds Try.pinned (OpenSpec.ofChange fnExactSignedRootSpec)

/-- ITS FALSE NEIGHBOUR: 'it returns false'. Refute it at one input. -/
def fnExactSignedRootWrong : ChangeSpec := { name := "fnExactSignedRoot", fn := fun _ => fun
  | [d] => { results := [.lit (.bool false)], args := [d] }
  | _ => none }
def FnExactSignedRootWrongFalsely : Prop := fnExactSignedRootRow.holds Try.pinned (OpenSpec.ofChange fnExactSignedRootWrong)

/-- 'laws.FnExactSharesOf': WHATEVER THE INPUT: true; the input reads as it did. -/
def fnExactSharesOfSpec : ChangeSpec := { name := "fnExactSharesOf", fn := fun _ => fun
  | [d1, d2] => { results := [.lit (.bool true)], args := [d1, d2] }
  | _ => none }
def fnExactSharesOfRow : OpenClaim := { program := "ythbihlbbejcpcaa", sum := "414cd18b046804ed1b95145772ea3eb514fb143b4ae80aa8770cda7ec146908a", func := "loop.example/g00852/laws.FnExactSharesOf", spec := "fnExactSharesOf", apart := false }
def FnExactSharesOfSaid : Prop := fnExactSharesOfRow.holds Try.pinned (OpenSpec.ofChange fnExactSharesOfSpec)

/-- ITS FALSE NEIGHBOUR: 'it returns false'. Refute it at one input. -/
def fnExactSharesOfWrong : ChangeSpec := { name := "fnExactSharesOf", fn := fun _ => fun
  | [d1, d2] => { results := [.lit (.bool false)], args := [d1, d2] }
  | _ => none }
def FnExactSharesOfWrongFalsely : Prop := fnExactSharesOfRow.holds Try.pinned (OpenSpec.ofChange fnExactSharesOfWrong)

/-- 'laws.FnSignedRoots': WHATEVER THE INPUT: true; the input reads as it did. -/
def fnSignedRootsSpec : ChangeSpec := { name := "fnSignedRoots", fn := fun _ => fun
  | [d] => { results := [.lit (.bool true)], args := [d] }
  | _ => none }
def fnSignedRootsRow : OpenClaim := { program := "ythbihlbbejcpcaa", sum := "414cd18b046804ed1b95145772ea3eb514fb143b4ae80aa8770cda7ec146908a", func := "loop.example/g00852/laws.FnSignedRoots", spec := "fnSignedRoots", inPlace := ["math.sqrt"], apart := false }
def FnSignedRootsSaid : Prop := fnSignedRootsRow.holds Try.pinned (OpenSpec.ofChange fnSignedRootsSpec)

/-- ITS FALSE NEIGHBOUR: 'it returns false'. Refute it at one input. -/
def fnSignedRootsWrong : ChangeSpec := { name := "fnSignedRoots", fn := fun _ => fun
  | [d] => { results := [.lit (.bool false)], args := [d] }
  | _ => none }
def FnSignedRootsWrongFalsely : Prop := fnSignedRootsRow.holds Try.pinned (OpenSpec.ofChange fnSignedRootsWrong)

/-- 'laws.FnRoots': WHATEVER THE INPUT: true; the input reads as it did. -/
def fnRootsSpec : ChangeSpec := { name := "fnRoots", fn := fun _ => fun
  | [d] => { results := [.lit (.bool true)], args := [d] }
  | _ => none }
def fnRootsRow : OpenClaim := { program := "ythbihlbbejcpcaa", sum := "414cd18b046804ed1b95145772ea3eb514fb143b4ae80aa8770cda7ec146908a", func := "loop.example/g00852/laws.FnRoots", spec := "fnRoots", inPlace := ["math.sqrt"], apart := false }
def FnRootsSaid : Prop := fnRootsRow.holds Try.pinned (OpenSpec.ofChange fnRootsSpec)

/-- ITS FALSE NEIGHBOUR: 'it returns false'. Refute it at one input. -/
def fnRootsWrong : ChangeSpec := { name := "fnRoots", fn := fun _ => fun
  | [d] => { results := [.lit (.bool false)], args := [d] }
  | _ => none }
def FnRootsWrongFalsely : Prop := fnRootsRow.holds Try.pinned (OpenSpec.ofChange fnRootsWrong)

/-- 'laws.FnShares': WHATEVER THE INPUT: true; the input reads as it did. -/
def fnSharesSpec : ChangeSpec := { name := "fnShares", fn := fun _ => fun
  | [d] => { results := [.lit (.bool true)], args := [d] }
  | _ => none }
def fnSharesRow : OpenClaim := { program := "ythbihlbbejcpcaa", sum := "414cd18b046804ed1b95145772ea3eb514fb143b4ae80aa8770cda7ec146908a", func := "loop.example/g00852/laws.FnShares", spec := "fnShares", apart := false }
def FnSharesSaid : Prop := fnSharesRow.holds Try.pinned (OpenSpec.ofChange fnSharesSpec)

/-- ITS FALSE NEIGHBOUR: 'it returns false'. Refute it at one input. -/
def fnSharesWrong : ChangeSpec := { name := "fnShares", fn := fun _ => fun
  | [d] => { results := [.lit (.bool false)], args := [d] }
  | _ => none }
def FnSharesWrongFalsely : Prop := fnSharesRow.holds Try.pinned (OpenSpec.ofChange fnSharesWrong)

/- THE SECOND FORM. 'bulk': how many values and letters a reading holds, each counted each time it is reached (what is shared counts as often as it is met; a slice's spare places count too). A statement '..UptoSaid' is the law's where the arguments, and the package variables that the reading takes, are together of bulk at most 1048576: NARROWER than '..Said'. Prove '..Said' where nothing that the law and all that it calls make is longer than what came in: it says more and counts as full. Else prove '..UptoSaid'. A law counts once. -/
mutual
def uptoBulk {H : Type} : DataW H → Nat
  | .lit (.string bytes) => bytes.length + 1
  | .lit _ => 1
  | .nil => 1
  | .ptr d => uptoBulk d + 1
  | .slice elems spare => uptoBulkAll elems + uptoBulkAll spare + 1
  | .agg parts => uptoBulkAll parts + 1
  | .iface _ d => uptoBulk d + 1
  | .map entries => uptoBulkEntries entries + 1
  | .held _ => 1
def uptoBulkAll {H : Type} : List (DataW H) → Nat
  | [] => 0
  | d :: r => uptoBulk d + uptoBulkAll r
def uptoBulkEntries {H : Type} : List (Lit × DataW H) → Nat
  | [] => 0
  | x :: r => uptoBulkEntry x + uptoBulkEntries r
def uptoBulkEntry {H : Type} : Lit × DataW H → Nat
  | (.string bytes, d) => bytes.length + uptoBulk d + 1
  | (_, d) => uptoBulk d + 1
 end
def uptoSmall : (H : Type) → List (DataW H) → Bool := fun _ ds => decide (uptoBulkAll ds ≤ 1048576)
def OpenSpec.upto (s : _root_.Go.ChangeSpec) : _root_.Go.OpenSpec := { _root_.Go.OpenSpec.ofChange s with cond := some uptoSmall }

/-- 'laws.FnExactConstants', WHERE WHAT IT READS IS OF BULK AT MOST 1048576: true; the input reads as it did. -/
def fnExactConstantsUptoRow : OpenClaim := { program := "ythbihlbbejcpcaa", sum := "414cd18b046804ed1b95145772ea3eb514fb143b4ae80aa8770cda7ec146908a", func := "loop.example/g00852/laws.FnExactConstants", spec := "fnExactConstants", apart := false, narrowed := true }
def FnExactConstantsUptoSaid : Prop := fnExactConstantsUptoRow.holds Try.pinned (OpenSpec.upto fnExactConstantsSpec)

/-- 'laws.FnExactSignedSquare', WHERE WHAT IT READS IS OF BULK AT MOST 1048576: true; the input reads as it did. -/
def fnExactSignedSquareUptoRow : OpenClaim := { program := "ythbihlbbejcpcaa", sum := "414cd18b046804ed1b95145772ea3eb514fb143b4ae80aa8770cda7ec146908a", func := "loop.example/g00852/laws.FnExactSignedSquare", spec := "fnExactSignedSquare", apart := false, narrowed := true }
def FnExactSignedSquareUptoSaid : Prop := fnExactSignedSquareUptoRow.holds Try.pinned (OpenSpec.upto fnExactSignedSquareSpec)

/-- 'laws.FnExactFloorDiv', WHERE WHAT IT READS IS OF BULK AT MOST 1048576: true; the input reads as it did. -/
def fnExactFloorDivUptoRow : OpenClaim := { program := "ythbihlbbejcpcaa", sum := "414cd18b046804ed1b95145772ea3eb514fb143b4ae80aa8770cda7ec146908a", func := "loop.example/g00852/laws.FnExactFloorDiv", spec := "fnExactFloorDiv", apart := false, narrowed := true }
def FnExactFloorDivUptoSaid : Prop := fnExactFloorDivUptoRow.holds Try.pinned (OpenSpec.upto fnExactFloorDivSpec)

/-- 'laws.FnExactMulDiv', WHERE WHAT IT READS IS OF BULK AT MOST 1048576: true; the input reads as it did. -/
def fnExactMulDivUptoRow : OpenClaim := { program := "ythbihlbbejcpcaa", sum := "414cd18b046804ed1b95145772ea3eb514fb143b4ae80aa8770cda7ec146908a", func := "loop.example/g00852/laws.FnExactMulDiv", spec := "fnExactMulDiv", apart := false, narrowed := true }
def FnExactMulDivUptoSaid : Prop := fnExactMulDivUptoRow.holds Try.pinned (OpenSpec.upto fnExactMulDivSpec)

/-- 'laws.FnExactNearestDiv', WHERE WHAT IT READS IS OF BULK AT MOST 1048576: true; the input reads as it did. -/
def fnExactNearestDivUptoRow : OpenClaim := { program := "ythbihlbbejcpcaa", sum := "414cd18b046804ed1b95145772ea3eb514fb143b4ae80aa8770cda7ec146908a", func := "loop.example/g00852/laws.FnExactNearestDiv", spec := "fnExactNearestDiv", apart := false, narrowed := true }
def FnExactNearestDivUptoSaid : Prop := fnExactNearestDivUptoRow.holds Try.pinned (OpenSpec.upto fnExactNearestDivSpec)

/-- 'laws.FnMulDiv', WHERE WHAT IT READS IS OF BULK AT MOST 1048576: true; the input reads as it did. -/
def fnMulDivUptoRow : OpenClaim := { program := "ythbihlbbejcpcaa", sum := "414cd18b046804ed1b95145772ea3eb514fb143b4ae80aa8770cda7ec146908a", func := "loop.example/g00852/laws.FnMulDiv", spec := "fnMulDiv", apart := false, narrowed := true }
def FnMulDivUptoSaid : Prop := fnMulDivUptoRow.holds Try.pinned (OpenSpec.upto fnMulDivSpec)

/-- 'laws.FnDivisions', WHERE WHAT IT READS IS OF BULK AT MOST 1048576: true; the input reads as it did. -/
def fnDivisionsUptoRow : OpenClaim := { program := "ythbihlbbejcpcaa", sum := "414cd18b046804ed1b95145772ea3eb514fb143b4ae80aa8770cda7ec146908a", func := "loop.example/g00852/laws.FnDivisions", spec := "fnDivisions", apart := false, narrowed := true }
def FnDivisionsUptoSaid : Prop := fnDivisionsUptoRow.holds Try.pinned (OpenSpec.upto fnDivisionsSpec)

/-- 'laws.FnExactRootOf', WHERE WHAT IT READS IS OF BULK AT MOST 1048576: true; the input reads as it did. -/
def fnExactRootOfUptoRow : OpenClaim := { program := "ythbihlbbejcpcaa", sum := "414cd18b046804ed1b95145772ea3eb514fb143b4ae80aa8770cda7ec146908a", func := "loop.example/g00852/laws.FnExactRootOf", spec := "fnExactRootOf", inPlace := ["math.sqrt"], apart := false, narrowed := true }
def FnExactRootOfUptoSaid : Prop := fnExactRootOfUptoRow.holds Try.pinned (OpenSpec.upto fnExactRootOfSpec)

/-- 'laws.FnExactSignedRoot', WHERE WHAT IT READS IS OF BULK AT MOST 1048576: true; the input reads as it did. -/
def fnExactSignedRootUptoRow : OpenClaim := { program := "ythbihlbbejcpcaa", sum := "414cd18b046804ed1b95145772ea3eb514fb143b4ae80aa8770cda7ec146908a", func := "loop.example/g00852/laws.FnExactSignedRoot", spec := "fnExactSignedRoot", inPlace := ["math.sqrt"], apart := false, narrowed := true }
def FnExactSignedRootUptoSaid : Prop := fnExactSignedRootUptoRow.holds Try.pinned (OpenSpec.upto fnExactSignedRootSpec)

/-- 'laws.FnExactSharesOf', WHERE WHAT IT READS IS OF BULK AT MOST 1048576: true; the input reads as it did. -/
def fnExactSharesOfUptoRow : OpenClaim := { program := "ythbihlbbejcpcaa", sum := "414cd18b046804ed1b95145772ea3eb514fb143b4ae80aa8770cda7ec146908a", func := "loop.example/g00852/laws.FnExactSharesOf", spec := "fnExactSharesOf", apart := false, narrowed := true }
def FnExactSharesOfUptoSaid : Prop := fnExactSharesOfUptoRow.holds Try.pinned (OpenSpec.upto fnExactSharesOfSpec)

/-- 'laws.FnSignedRoots', WHERE WHAT IT READS IS OF BULK AT MOST 1048576: true; the input reads as it did. -/
def fnSignedRootsUptoRow : OpenClaim := { program := "ythbihlbbejcpcaa", sum := "414cd18b046804ed1b95145772ea3eb514fb143b4ae80aa8770cda7ec146908a", func := "loop.example/g00852/laws.FnSignedRoots", spec := "fnSignedRoots", inPlace := ["math.sqrt"], apart := false, narrowed := true }
def FnSignedRootsUptoSaid : Prop := fnSignedRootsUptoRow.holds Try.pinned (OpenSpec.upto fnSignedRootsSpec)

/-- 'laws.FnRoots', WHERE WHAT IT READS IS OF BULK AT MOST 1048576: true; the input reads as it did. -/
def fnRootsUptoRow : OpenClaim := { program := "ythbihlbbejcpcaa", sum := "414cd18b046804ed1b95145772ea3eb514fb143b4ae80aa8770cda7ec146908a", func := "loop.example/g00852/laws.FnRoots", spec := "fnRoots", inPlace := ["math.sqrt"], apart := false, narrowed := true }
def FnRootsUptoSaid : Prop := fnRootsUptoRow.holds Try.pinned (OpenSpec.upto fnRootsSpec)

/-- 'laws.FnShares', WHERE WHAT IT READS IS OF BULK AT MOST 1048576: true; the input reads as it did. -/
def fnSharesUptoRow : OpenClaim := { program := "ythbihlbbejcpcaa", sum := "414cd18b046804ed1b95145772ea3eb514fb143b4ae80aa8770cda7ec146908a", func := "loop.example/g00852/laws.FnShares", spec := "fnShares", apart := false, narrowed := true }
def FnSharesUptoSaid : Prop := fnSharesUptoRow.holds Try.pinned (OpenSpec.upto fnSharesSpec)

end Rows
end Go.Proofs.Ythbihlbbejcpcaa
