/-
  NARROWER THAN 'FOR EVERY INPUT', by the rows' own cells (each row's printed sentence says how): FnExactReadNetwork: laid · FnExactThousandthsText: laid · FnExactNodeLine: laid · FnWrongLines: laid · FnExactPipeLine: laid · FnExactNetworkText: laid · FnExactReadThousandths: laid · FnThousandths: laid · FnExactReadNodeLine: laid · FnExactFirstWrongLine: laid · FnNetworkText: laid.
  DERIVED. THE GIVEN ROWS OF THIS SEAT. 11 by the template 'for every input the law returns true; each argument reads behind the call as it read before'; 0 by the template 'total and deterministic' (their statements: YtdbgncinaacheaaDoorTotals.lean).
  GIVEN WITH THE SEED: the statements are not yours to turn. If you find one false, say at which input.
  Laid BY PROGRAM, IN A SANDBOX (cutbox-rows.mjs): the forced cells as the released guide's own fill.sh prints them over the translation 5e2c136ad9232973… (all of the seat's roots in one cut). By AI agents, Wed Nov 11 2026. No macro, syntax, notation, axiom, sorry.
-/
import Derived.Test.YtdbgncinaacheaaDoorChecked
import GoSem.PinnedTables
import GoSem.Claim
import GoSem.ClaimJoined
import GoSem.ClaimMapViews
import Derived.JoinedTies
import Derived.KernelRfl
namespace Go.Proofs.YtdbgncinaacheaaDoor
/- THE CELL 'sum', in the pinned program and in every row, IS THE sha256 OF THE DUMP (.gsa) THAT YtdbgncinaacheaaDoorProg.lean LOADS. Nothing in Lean hashes anything: it is a label: what it is worth is what the hold of that sum in a sandbox is worth. -/
noncomputable def Tryd.pinned : Pinned := { name := "ytdbgncinaacheaadoor", sum := "5e2c136ad923297309cb060dba2e1f1040fbe67abbb4be5e52020e1883c2d308", checked := Tryd.checked }
namespace Rows
def none {H : Type} : Left H := { results := [], args := [] }

/- WHAT THE LISTED PACKAGE-LEVEL VARIABLES READ AS WHEN THE CALL BEGINS. Each datum BY PROGRAM (the guide's laid-datum.mjs) off the statement by which the dump's own 'gosem.cut.vars' lays the variable. In a bare row this is a premise. The card (YtdbgncinaacheaaDoorCards.lean) ties it to the program's text. -/
def laid_math_bits_deBruijn32tab {H : Type} : DataW H := .agg [.lit (.int .u8 0), .lit (.int .u8 1), .lit (.int .u8 28), .lit (.int .u8 2), .lit (.int .u8 29), .lit (.int .u8 14), .lit (.int .u8 24), .lit (.int .u8 3), .lit (.int .u8 30), .lit (.int .u8 22), .lit (.int .u8 20), .lit (.int .u8 15), .lit (.int .u8 25), .lit (.int .u8 17), .lit (.int .u8 4), .lit (.int .u8 8), .lit (.int .u8 31), .lit (.int .u8 27), .lit (.int .u8 13), .lit (.int .u8 23), .lit (.int .u8 21), .lit (.int .u8 19), .lit (.int .u8 16), .lit (.int .u8 7), .lit (.int .u8 26), .lit (.int .u8 12), .lit (.int .u8 18), .lit (.int .u8 6), .lit (.int .u8 11), .lit (.int .u8 5), .lit (.int .u8 10), .lit (.int .u8 9)]
def laid_math_bits_deBruijn64tab {H : Type} : DataW H := .agg [.lit (.int .u8 0), .lit (.int .u8 1), .lit (.int .u8 56), .lit (.int .u8 2), .lit (.int .u8 57), .lit (.int .u8 49), .lit (.int .u8 28), .lit (.int .u8 3), .lit (.int .u8 61), .lit (.int .u8 58), .lit (.int .u8 42), .lit (.int .u8 50), .lit (.int .u8 38), .lit (.int .u8 29), .lit (.int .u8 17), .lit (.int .u8 4), .lit (.int .u8 62), .lit (.int .u8 47), .lit (.int .u8 59), .lit (.int .u8 36), .lit (.int .u8 45), .lit (.int .u8 43), .lit (.int .u8 51), .lit (.int .u8 22), .lit (.int .u8 53), .lit (.int .u8 39), .lit (.int .u8 33), .lit (.int .u8 30), .lit (.int .u8 24), .lit (.int .u8 18), .lit (.int .u8 12), .lit (.int .u8 5), .lit (.int .u8 63), .lit (.int .u8 55), .lit (.int .u8 48), .lit (.int .u8 27), .lit (.int .u8 60), .lit (.int .u8 41), .lit (.int .u8 37), .lit (.int .u8 16), .lit (.int .u8 46), .lit (.int .u8 35), .lit (.int .u8 44), .lit (.int .u8 21), .lit (.int .u8 52), .lit (.int .u8 32), .lit (.int .u8 23), .lit (.int .u8 11), .lit (.int .u8 54), .lit (.int .u8 26), .lit (.int .u8 40), .lit (.int .u8 15), .lit (.int .u8 34), .lit (.int .u8 20), .lit (.int .u8 31), .lit (.int .u8 10), .lit (.int .u8 25), .lit (.int .u8 14), .lit (.int .u8 19), .lit (.int .u8 9), .lit (.int .u8 13), .lit (.int .u8 8), .lit (.int .u8 7), .lit (.int .u8 6)]
def laid_internal_strconv_uint64pow10 {H : Type} : DataW H := .agg [.lit (.int .u64 1), .lit (.int .u64 10), .lit (.int .u64 100), .lit (.int .u64 1000), .lit (.int .u64 10000), .lit (.int .u64 100000), .lit (.int .u64 1000000), .lit (.int .u64 10000000), .lit (.int .u64 100000000), .lit (.int .u64 1000000000), .lit (.int .u64 10000000000), .lit (.int .u64 100000000000), .lit (.int .u64 1000000000000), .lit (.int .u64 10000000000000), .lit (.int .u64 100000000000000), .lit (.int .u64 1000000000000000), .lit (.int .u64 10000000000000000), .lit (.int .u64 100000000000000000), .lit (.int .u64 1000000000000000000), .lit (.int .u64 10000000000000000000)]
def laid_unicode_utf8_acceptRanges {H : Type} : DataW H := .agg [.agg [.lit (.int .u8 128), .lit (.int .u8 191)], .agg [.lit (.int .u8 160), .lit (.int .u8 191)], .agg [.lit (.int .u8 128), .lit (.int .u8 159)], .agg [.lit (.int .u8 144), .lit (.int .u8 191)], .agg [.lit (.int .u8 128), .lit (.int .u8 143)], .agg [.lit (.int .u8 0), .lit (.int .u8 0)], .agg [.lit (.int .u8 0), .lit (.int .u8 0)], .agg [.lit (.int .u8 0), .lit (.int .u8 0)], .agg [.lit (.int .u8 0), .lit (.int .u8 0)], .agg [.lit (.int .u8 0), .lit (.int .u8 0)], .agg [.lit (.int .u8 0), .lit (.int .u8 0)], .agg [.lit (.int .u8 0), .lit (.int .u8 0)], .agg [.lit (.int .u8 0), .lit (.int .u8 0)], .agg [.lit (.int .u8 0), .lit (.int .u8 0)], .agg [.lit (.int .u8 0), .lit (.int .u8 0)], .agg [.lit (.int .u8 0), .lit (.int .u8 0)]]
def laid_strconv_ErrRange {H : Type} : DataW H := .iface "*errors.errorString" (.ptr (.agg [.lit (.string [118, 97, 108, 117, 101, 32, 111, 117, 116, 32, 111, 102, 32, 114, 97, 110, 103, 101])]))
def laid_strconv_ErrSyntax {H : Type} : DataW H := .iface "*errors.errorString" (.ptr (.agg [.lit (.string [105, 110, 118, 97, 108, 105, 100, 32, 115, 121, 110, 116, 97, 120])]))
/-- One of Go's own tables, pinned by name: the form's constant. -/
def laid_unicode_utf8_first : DataW Unit := Go.Pinned.utf8First

/-- 'laws.FnExactReadNetwork': WHATEVER THE INPUT: true; the input reads as it did. -/
def fnExactReadNetworkSpec : ChangeSpec := { name := "fnExactReadNetwork", fn := fun _ => fun
  | [d] => { results := [.lit (.bool true)], args := [d] }
  | _ => none }
def fnExactReadNetworkRow : OpenClaim := { program := "ytdbgncinaacheaadoor", sum := "5e2c136ad923297309cb060dba2e1f1040fbe67abbb4be5e52020e1883c2d308", func := "loop.example/g00852/laws.FnExactReadNetwork", spec := "fnExactReadNetwork", inPlace := ["internal/bytealg.CountString", "internal/bytealg.IndexByteString", "internal/bytealg.IndexString"], unfollowed := true, recurses := true, named := ["unicode/utf8.first", "unicode/utf8.acceptRanges", "internal/bytealg.MaxLen", "strconv.ErrSyntax", "strconv.ErrRange", "internal/strconv.uint64pow10", "math/bits.deBruijn32tab", "math/bits.deBruijn64tab"], apart := false, laid := [("math/bits.deBruijn32tab", laid_math_bits_deBruijn32tab), ("math/bits.deBruijn64tab", laid_math_bits_deBruijn64tab), ("internal/strconv.uint64pow10", laid_internal_strconv_uint64pow10), ("unicode/utf8.acceptRanges", laid_unicode_utf8_acceptRanges), ("strconv.ErrRange", laid_strconv_ErrRange), ("strconv.ErrSyntax", laid_strconv_ErrSyntax), ("unicode/utf8.first", laid_unicode_utf8_first)] }
def FnExactReadNetworkSaid : Prop := fnExactReadNetworkRow.holds Tryd.pinned (OpenSpec.ofChange fnExactReadNetworkSpec)

/-- ITS FALSE NEIGHBOUR: 'it returns false'. Refute it at one input. -/
def fnExactReadNetworkWrong : ChangeSpec := { name := "fnExactReadNetwork", fn := fun _ => fun
  | [d] => { results := [.lit (.bool false)], args := [d] }
  | _ => none }
def FnExactReadNetworkWrongFalsely : Prop := fnExactReadNetworkRow.holds Tryd.pinned (OpenSpec.ofChange fnExactReadNetworkWrong)

/-- 'laws.FnExactThousandthsText': WHATEVER THE INPUT: true; the input reads as it did. -/
def fnExactThousandthsTextSpec : ChangeSpec := { name := "fnExactThousandthsText", fn := fun _ => fun
  | [d] => { results := [.lit (.bool true)], args := [d] }
  | _ => none }
def fnExactThousandthsTextRow : OpenClaim := { program := "ytdbgncinaacheaadoor", sum := "5e2c136ad923297309cb060dba2e1f1040fbe67abbb4be5e52020e1883c2d308", func := "loop.example/g00852/laws.FnExactThousandthsText", spec := "fnExactThousandthsText", recurses := true, named := ["internal/strconv.uint64pow10", "math/bits.deBruijn32tab", "math/bits.deBruijn64tab"], apart := false, laid := [("math/bits.deBruijn32tab", laid_math_bits_deBruijn32tab), ("math/bits.deBruijn64tab", laid_math_bits_deBruijn64tab), ("internal/strconv.uint64pow10", laid_internal_strconv_uint64pow10)] }
def FnExactThousandthsTextSaid : Prop := fnExactThousandthsTextRow.holds Tryd.pinned (OpenSpec.ofChange fnExactThousandthsTextSpec)

/-- ITS FALSE NEIGHBOUR: 'it returns false'. Refute it at one input. -/
def fnExactThousandthsTextWrong : ChangeSpec := { name := "fnExactThousandthsText", fn := fun _ => fun
  | [d] => { results := [.lit (.bool false)], args := [d] }
  | _ => none }
def FnExactThousandthsTextWrongFalsely : Prop := fnExactThousandthsTextRow.holds Tryd.pinned (OpenSpec.ofChange fnExactThousandthsTextWrong)

/-- 'laws.FnExactNodeLine': WHATEVER THE INPUT: true; the input reads as it did. -/
def fnExactNodeLineSpec : ChangeSpec := { name := "fnExactNodeLine", fn := fun _ => fun
  | [d] => { results := [.lit (.bool true)], args := [d] }
  | _ => none }
def fnExactNodeLineRow : OpenClaim := { program := "ytdbgncinaacheaadoor", sum := "5e2c136ad923297309cb060dba2e1f1040fbe67abbb4be5e52020e1883c2d308", func := "loop.example/g00852/laws.FnExactNodeLine", spec := "fnExactNodeLine", recurses := true, named := ["internal/strconv.uint64pow10", "math/bits.deBruijn32tab", "math/bits.deBruijn64tab"], apart := false, laid := [("math/bits.deBruijn32tab", laid_math_bits_deBruijn32tab), ("math/bits.deBruijn64tab", laid_math_bits_deBruijn64tab), ("internal/strconv.uint64pow10", laid_internal_strconv_uint64pow10)] }
def FnExactNodeLineSaid : Prop := fnExactNodeLineRow.holds Tryd.pinned (OpenSpec.ofChange fnExactNodeLineSpec)

/-- ITS FALSE NEIGHBOUR: 'it returns false'. Refute it at one input. -/
def fnExactNodeLineWrong : ChangeSpec := { name := "fnExactNodeLine", fn := fun _ => fun
  | [d] => { results := [.lit (.bool false)], args := [d] }
  | _ => none }
def FnExactNodeLineWrongFalsely : Prop := fnExactNodeLineRow.holds Tryd.pinned (OpenSpec.ofChange fnExactNodeLineWrong)

/-- 'laws.FnWrongLines': WHATEVER THE INPUT: true; the input reads as it did. -/
def fnWrongLinesSpec : ChangeSpec := { name := "fnWrongLines", fn := fun _ => fun
  | [d] => { results := [.lit (.bool true)], args := [d] }
  | _ => none }
def fnWrongLinesRow : OpenClaim := { program := "ytdbgncinaacheaadoor", sum := "5e2c136ad923297309cb060dba2e1f1040fbe67abbb4be5e52020e1883c2d308", func := "loop.example/g00852/laws.FnWrongLines", spec := "fnWrongLines", inPlace := ["internal/bytealg.CountString", "internal/bytealg.IndexByteString", "internal/bytealg.IndexString", "internal/abi.NoEscape", "internal/bytealg.MakeNoZero"], unfollowed := true, recurses := true, named := ["unicode/utf8.first", "unicode/utf8.acceptRanges", "internal/bytealg.MaxLen", "strconv.ErrSyntax", "strconv.ErrRange", "internal/strconv.uint64pow10", "math/bits.deBruijn32tab", "math/bits.deBruijn64tab"], apart := false, laid := [("math/bits.deBruijn32tab", laid_math_bits_deBruijn32tab), ("math/bits.deBruijn64tab", laid_math_bits_deBruijn64tab), ("internal/strconv.uint64pow10", laid_internal_strconv_uint64pow10), ("unicode/utf8.acceptRanges", laid_unicode_utf8_acceptRanges), ("strconv.ErrRange", laid_strconv_ErrRange), ("strconv.ErrSyntax", laid_strconv_ErrSyntax), ("unicode/utf8.first", laid_unicode_utf8_first)] }
def FnWrongLinesSaid : Prop := fnWrongLinesRow.holds Tryd.pinned (OpenSpec.ofChange fnWrongLinesSpec)

/-- ITS FALSE NEIGHBOUR: 'it returns false'. Refute it at one input. -/
def fnWrongLinesWrong : ChangeSpec := { name := "fnWrongLines", fn := fun _ => fun
  | [d] => { results := [.lit (.bool false)], args := [d] }
  | _ => none }
def FnWrongLinesWrongFalsely : Prop := fnWrongLinesRow.holds Tryd.pinned (OpenSpec.ofChange fnWrongLinesWrong)

/-- 'laws.FnExactPipeLine': WHATEVER THE INPUT: true; the input reads as it did. -/
def fnExactPipeLineSpec : ChangeSpec := { name := "fnExactPipeLine", fn := fun _ => fun
  | [d1, d2] => { results := [.lit (.bool true)], args := [d1, d2] }
  | _ => none }
def fnExactPipeLineRow : OpenClaim := { program := "ytdbgncinaacheaadoor", sum := "5e2c136ad923297309cb060dba2e1f1040fbe67abbb4be5e52020e1883c2d308", func := "loop.example/g00852/laws.FnExactPipeLine", spec := "fnExactPipeLine", inPlace := ["internal/abi.NoEscape", "internal/bytealg.MakeNoZero"], unfollowed := true, recurses := true, named := ["internal/strconv.uint64pow10", "math/bits.deBruijn32tab", "math/bits.deBruijn64tab"], apart := false, laid := [("math/bits.deBruijn32tab", laid_math_bits_deBruijn32tab), ("math/bits.deBruijn64tab", laid_math_bits_deBruijn64tab), ("internal/strconv.uint64pow10", laid_internal_strconv_uint64pow10)] }
def FnExactPipeLineSaid : Prop := fnExactPipeLineRow.holds Tryd.pinned (OpenSpec.ofChange fnExactPipeLineSpec)

/-- ITS FALSE NEIGHBOUR: 'it returns false'. Refute it at one input. -/
def fnExactPipeLineWrong : ChangeSpec := { name := "fnExactPipeLine", fn := fun _ => fun
  | [d1, d2] => { results := [.lit (.bool false)], args := [d1, d2] }
  | _ => none }
def FnExactPipeLineWrongFalsely : Prop := fnExactPipeLineRow.holds Tryd.pinned (OpenSpec.ofChange fnExactPipeLineWrong)

/-- 'laws.FnExactNetworkText': WHATEVER THE INPUT: true; the input reads as it did. -/
def fnExactNetworkTextSpec : ChangeSpec := { name := "fnExactNetworkText", fn := fun _ => fun
  | [d] => { results := [.lit (.bool true)], args := [d] }
  | _ => none }
def fnExactNetworkTextRow : OpenClaim := { program := "ytdbgncinaacheaadoor", sum := "5e2c136ad923297309cb060dba2e1f1040fbe67abbb4be5e52020e1883c2d308", func := "loop.example/g00852/laws.FnExactNetworkText", spec := "fnExactNetworkText", inPlace := ["internal/abi.NoEscape", "internal/bytealg.MakeNoZero"], unfollowed := true, recurses := true, named := ["internal/strconv.uint64pow10", "math/bits.deBruijn32tab", "math/bits.deBruijn64tab"], apart := false, laid := [("math/bits.deBruijn32tab", laid_math_bits_deBruijn32tab), ("math/bits.deBruijn64tab", laid_math_bits_deBruijn64tab), ("internal/strconv.uint64pow10", laid_internal_strconv_uint64pow10)] }
def FnExactNetworkTextSaid : Prop := fnExactNetworkTextRow.holds Tryd.pinned (OpenSpec.ofChange fnExactNetworkTextSpec)

/-- ITS FALSE NEIGHBOUR: 'it returns false'. Refute it at one input. -/
def fnExactNetworkTextWrong : ChangeSpec := { name := "fnExactNetworkText", fn := fun _ => fun
  | [d] => { results := [.lit (.bool false)], args := [d] }
  | _ => none }
def FnExactNetworkTextWrongFalsely : Prop := fnExactNetworkTextRow.holds Tryd.pinned (OpenSpec.ofChange fnExactNetworkTextWrong)

/-- 'laws.FnExactReadThousandths': WHATEVER THE INPUT: true; the input reads as it did. -/
def fnExactReadThousandthsSpec : ChangeSpec := { name := "fnExactReadThousandths", fn := fun _ => fun
  | [d] => { results := [.lit (.bool true)], args := [d] }
  | _ => none }
def fnExactReadThousandthsRow : OpenClaim := { program := "ytdbgncinaacheaadoor", sum := "5e2c136ad923297309cb060dba2e1f1040fbe67abbb4be5e52020e1883c2d308", func := "loop.example/g00852/laws.FnExactReadThousandths", spec := "fnExactReadThousandths", inPlace := ["internal/bytealg.IndexByteString", "internal/bytealg.IndexString"], recurses := true, named := ["internal/bytealg.MaxLen", "strconv.ErrSyntax", "strconv.ErrRange", "internal/strconv.uint64pow10", "math/bits.deBruijn32tab", "math/bits.deBruijn64tab"], apart := false, laid := [("math/bits.deBruijn32tab", laid_math_bits_deBruijn32tab), ("math/bits.deBruijn64tab", laid_math_bits_deBruijn64tab), ("internal/strconv.uint64pow10", laid_internal_strconv_uint64pow10), ("strconv.ErrRange", laid_strconv_ErrRange), ("strconv.ErrSyntax", laid_strconv_ErrSyntax)] }
def FnExactReadThousandthsSaid : Prop := fnExactReadThousandthsRow.holds Tryd.pinned (OpenSpec.ofChange fnExactReadThousandthsSpec)

/-- ITS FALSE NEIGHBOUR: 'it returns false'. Refute it at one input. -/
def fnExactReadThousandthsWrong : ChangeSpec := { name := "fnExactReadThousandths", fn := fun _ => fun
  | [d] => { results := [.lit (.bool false)], args := [d] }
  | _ => none }
def FnExactReadThousandthsWrongFalsely : Prop := fnExactReadThousandthsRow.holds Tryd.pinned (OpenSpec.ofChange fnExactReadThousandthsWrong)

/-- 'laws.FnThousandths': WHATEVER THE INPUT: true; the input reads as it did. -/
def fnThousandthsSpec : ChangeSpec := { name := "fnThousandths", fn := fun _ => fun
  | [d] => { results := [.lit (.bool true)], args := [d] }
  | _ => none }
def fnThousandthsRow : OpenClaim := { program := "ytdbgncinaacheaadoor", sum := "5e2c136ad923297309cb060dba2e1f1040fbe67abbb4be5e52020e1883c2d308", func := "loop.example/g00852/laws.FnThousandths", spec := "fnThousandths", inPlace := ["internal/bytealg.IndexByteString", "internal/bytealg.IndexString"], recurses := true, named := ["internal/strconv.uint64pow10", "math/bits.deBruijn32tab", "math/bits.deBruijn64tab", "internal/bytealg.MaxLen", "strconv.ErrSyntax", "strconv.ErrRange"], apart := false, laid := [("math/bits.deBruijn32tab", laid_math_bits_deBruijn32tab), ("math/bits.deBruijn64tab", laid_math_bits_deBruijn64tab), ("internal/strconv.uint64pow10", laid_internal_strconv_uint64pow10), ("strconv.ErrRange", laid_strconv_ErrRange), ("strconv.ErrSyntax", laid_strconv_ErrSyntax)] }
def FnThousandthsSaid : Prop := fnThousandthsRow.holds Tryd.pinned (OpenSpec.ofChange fnThousandthsSpec)

/-- ITS FALSE NEIGHBOUR: 'it returns false'. Refute it at one input. -/
def fnThousandthsWrong : ChangeSpec := { name := "fnThousandths", fn := fun _ => fun
  | [d] => { results := [.lit (.bool false)], args := [d] }
  | _ => none }
def FnThousandthsWrongFalsely : Prop := fnThousandthsRow.holds Tryd.pinned (OpenSpec.ofChange fnThousandthsWrong)

/-- 'laws.FnExactReadNodeLine': WHATEVER THE INPUT: true; the input reads as it did. -/
def fnExactReadNodeLineSpec : ChangeSpec := { name := "fnExactReadNodeLine", fn := fun _ => fun
  | [d] => { results := [.lit (.bool true)], args := [d] }
  | _ => none }
def fnExactReadNodeLineRow : OpenClaim := { program := "ytdbgncinaacheaadoor", sum := "5e2c136ad923297309cb060dba2e1f1040fbe67abbb4be5e52020e1883c2d308", func := "loop.example/g00852/laws.FnExactReadNodeLine", spec := "fnExactReadNodeLine", inPlace := ["internal/bytealg.CountString", "internal/bytealg.IndexByteString", "internal/bytealg.IndexString"], recurses := true, named := ["unicode/utf8.first", "unicode/utf8.acceptRanges", "internal/bytealg.MaxLen", "strconv.ErrSyntax", "strconv.ErrRange", "internal/strconv.uint64pow10", "math/bits.deBruijn32tab", "math/bits.deBruijn64tab"], apart := false, laid := [("math/bits.deBruijn32tab", laid_math_bits_deBruijn32tab), ("math/bits.deBruijn64tab", laid_math_bits_deBruijn64tab), ("internal/strconv.uint64pow10", laid_internal_strconv_uint64pow10), ("unicode/utf8.acceptRanges", laid_unicode_utf8_acceptRanges), ("strconv.ErrRange", laid_strconv_ErrRange), ("strconv.ErrSyntax", laid_strconv_ErrSyntax), ("unicode/utf8.first", laid_unicode_utf8_first)] }
def FnExactReadNodeLineSaid : Prop := fnExactReadNodeLineRow.holds Tryd.pinned (OpenSpec.ofChange fnExactReadNodeLineSpec)

/-- ITS FALSE NEIGHBOUR: 'it returns false'. Refute it at one input. -/
def fnExactReadNodeLineWrong : ChangeSpec := { name := "fnExactReadNodeLine", fn := fun _ => fun
  | [d] => { results := [.lit (.bool false)], args := [d] }
  | _ => none }
def FnExactReadNodeLineWrongFalsely : Prop := fnExactReadNodeLineRow.holds Tryd.pinned (OpenSpec.ofChange fnExactReadNodeLineWrong)

/-- 'laws.FnExactFirstWrongLine': WHATEVER THE INPUT: true; the input reads as it did. -/
def fnExactFirstWrongLineSpec : ChangeSpec := { name := "fnExactFirstWrongLine", fn := fun _ => fun
  | [d] => { results := [.lit (.bool true)], args := [d] }
  | _ => none }
def fnExactFirstWrongLineRow : OpenClaim := { program := "ytdbgncinaacheaadoor", sum := "5e2c136ad923297309cb060dba2e1f1040fbe67abbb4be5e52020e1883c2d308", func := "loop.example/g00852/laws.FnExactFirstWrongLine", spec := "fnExactFirstWrongLine", inPlace := ["internal/bytealg.CountString", "internal/bytealg.IndexByteString", "internal/bytealg.IndexString", "internal/abi.NoEscape", "internal/bytealg.MakeNoZero"], unfollowed := true, recurses := true, named := ["unicode/utf8.first", "unicode/utf8.acceptRanges", "internal/bytealg.MaxLen", "strconv.ErrSyntax", "strconv.ErrRange", "internal/strconv.uint64pow10", "math/bits.deBruijn32tab", "math/bits.deBruijn64tab"], apart := false, laid := [("math/bits.deBruijn32tab", laid_math_bits_deBruijn32tab), ("math/bits.deBruijn64tab", laid_math_bits_deBruijn64tab), ("internal/strconv.uint64pow10", laid_internal_strconv_uint64pow10), ("unicode/utf8.acceptRanges", laid_unicode_utf8_acceptRanges), ("strconv.ErrRange", laid_strconv_ErrRange), ("strconv.ErrSyntax", laid_strconv_ErrSyntax), ("unicode/utf8.first", laid_unicode_utf8_first)] }
def FnExactFirstWrongLineSaid : Prop := fnExactFirstWrongLineRow.holds Tryd.pinned (OpenSpec.ofChange fnExactFirstWrongLineSpec)

/-- ITS FALSE NEIGHBOUR: 'it returns false'. Refute it at one input. -/
def fnExactFirstWrongLineWrong : ChangeSpec := { name := "fnExactFirstWrongLine", fn := fun _ => fun
  | [d] => { results := [.lit (.bool false)], args := [d] }
  | _ => none }
def FnExactFirstWrongLineWrongFalsely : Prop := fnExactFirstWrongLineRow.holds Tryd.pinned (OpenSpec.ofChange fnExactFirstWrongLineWrong)

/-- 'laws.FnNetworkText': WHATEVER THE INPUT: true; the input reads as it did. -/
def fnNetworkTextSpec : ChangeSpec := { name := "fnNetworkText", fn := fun _ => fun
  | [d] => { results := [.lit (.bool true)], args := [d] }
  | _ => none }
def fnNetworkTextRow : OpenClaim := { program := "ytdbgncinaacheaadoor", sum := "5e2c136ad923297309cb060dba2e1f1040fbe67abbb4be5e52020e1883c2d308", func := "loop.example/g00852/laws.FnNetworkText", spec := "fnNetworkText", inPlace := ["internal/abi.NoEscape", "internal/bytealg.MakeNoZero", "internal/bytealg.CountString", "internal/bytealg.IndexByteString", "internal/bytealg.IndexString"], unfollowed := true, recurses := true, named := ["internal/strconv.uint64pow10", "math/bits.deBruijn32tab", "math/bits.deBruijn64tab", "unicode/utf8.first", "unicode/utf8.acceptRanges", "internal/bytealg.MaxLen", "strconv.ErrSyntax", "strconv.ErrRange"], apart := false, laid := [("math/bits.deBruijn32tab", laid_math_bits_deBruijn32tab), ("math/bits.deBruijn64tab", laid_math_bits_deBruijn64tab), ("internal/strconv.uint64pow10", laid_internal_strconv_uint64pow10), ("unicode/utf8.acceptRanges", laid_unicode_utf8_acceptRanges), ("strconv.ErrRange", laid_strconv_ErrRange), ("strconv.ErrSyntax", laid_strconv_ErrSyntax), ("unicode/utf8.first", laid_unicode_utf8_first)] }
def FnNetworkTextSaid : Prop := fnNetworkTextRow.holds Tryd.pinned (OpenSpec.ofChange fnNetworkTextSpec)

/-- ITS FALSE NEIGHBOUR: 'it returns false'. Refute it at one input. -/
def fnNetworkTextWrong : ChangeSpec := { name := "fnNetworkText", fn := fun _ => fun
  | [d] => { results := [.lit (.bool false)], args := [d] }
  | _ => none }
def FnNetworkTextWrongFalsely : Prop := fnNetworkTextRow.holds Tryd.pinned (OpenSpec.ofChange fnNetworkTextWrong)

/- THE SECOND FORM. 'bulk': how many values and letters a reading holds, each counted each time it is reached (what is shared counts as often as it is met; a slice's spare places count too). A statement '..UptoSaid' is the law's where the arguments, and the package variables that the reading takes, are together of bulk at most 1048576: NARROWER than '..Said'. Prove '..Said' where nothing that the law and all that it calls make is longer than what came in: it says more and counts as full. Else prove '..UptoSaid'. A law counts once. -/
mutual
def uptoBulk {H : Type} : DataW H → Nat
  | .lit (.string bytes) => bytes.length + 1
  | .lit _ => 1
  | .nil => 1
  | .ptr d => uptoBulk d + 1
  | .slice elems spare => uptoBulkAll elems + uptoBulkAll spare + 1
  | .agg parts => uptoBulkAll parts + 1
  | .iface _ d => uptoBulk d + 1
  | .map entries => uptoBulkEntries entries + 1
  | .held _ => 1
def uptoBulkAll {H : Type} : List (DataW H) → Nat
  | [] => 0
  | d :: r => uptoBulk d + uptoBulkAll r
def uptoBulkEntries {H : Type} : List (Lit × DataW H) → Nat
  | [] => 0
  | x :: r => uptoBulkEntry x + uptoBulkEntries r
def uptoBulkEntry {H : Type} : Lit × DataW H → Nat
  | (.string bytes, d) => bytes.length + uptoBulk d + 1
  | (_, d) => uptoBulk d + 1
 end
def uptoSmall : (H : Type) → List (DataW H) → Bool := fun _ ds => decide (uptoBulkAll ds ≤ 1048576)
def OpenSpec.upto (s : _root_.Go.ChangeSpec) : _root_.Go.OpenSpec := { _root_.Go.OpenSpec.ofChange s with cond := some uptoSmall }

/-- 'laws.FnExactReadNetwork', WHERE WHAT IT READS IS OF BULK AT MOST 1048576: true; the input reads as it did. -/
def fnExactReadNetworkUptoRow : OpenClaim := { program := "ytdbgncinaacheaadoor", sum := "5e2c136ad923297309cb060dba2e1f1040fbe67abbb4be5e52020e1883c2d308", func := "loop.example/g00852/laws.FnExactReadNetwork", spec := "fnExactReadNetwork", inPlace := ["internal/bytealg.CountString", "internal/bytealg.IndexByteString", "internal/bytealg.IndexString"], unfollowed := true, recurses := true, named := ["unicode/utf8.first", "unicode/utf8.acceptRanges", "internal/bytealg.MaxLen", "strconv.ErrSyntax", "strconv.ErrRange", "internal/strconv.uint64pow10", "math/bits.deBruijn32tab", "math/bits.deBruijn64tab"], apart := false, laid := [("math/bits.deBruijn32tab", laid_math_bits_deBruijn32tab), ("math/bits.deBruijn64tab", laid_math_bits_deBruijn64tab), ("internal/strconv.uint64pow10", laid_internal_strconv_uint64pow10), ("unicode/utf8.acceptRanges", laid_unicode_utf8_acceptRanges), ("strconv.ErrRange", laid_strconv_ErrRange), ("strconv.ErrSyntax", laid_strconv_ErrSyntax), ("unicode/utf8.first", laid_unicode_utf8_first)], narrowed := true }
def FnExactReadNetworkUptoSaid : Prop := fnExactReadNetworkUptoRow.holds Tryd.pinned (OpenSpec.upto fnExactReadNetworkSpec)

/-- 'laws.FnExactThousandthsText', WHERE WHAT IT READS IS OF BULK AT MOST 1048576: true; the input reads as it did. -/
def fnExactThousandthsTextUptoRow : OpenClaim := { program := "ytdbgncinaacheaadoor", sum := "5e2c136ad923297309cb060dba2e1f1040fbe67abbb4be5e52020e1883c2d308", func := "loop.example/g00852/laws.FnExactThousandthsText", spec := "fnExactThousandthsText", recurses := true, named := ["internal/strconv.uint64pow10", "math/bits.deBruijn32tab", "math/bits.deBruijn64tab"], apart := false, laid := [("math/bits.deBruijn32tab", laid_math_bits_deBruijn32tab), ("math/bits.deBruijn64tab", laid_math_bits_deBruijn64tab), ("internal/strconv.uint64pow10", laid_internal_strconv_uint64pow10)], narrowed := true }
def FnExactThousandthsTextUptoSaid : Prop := fnExactThousandthsTextUptoRow.holds Tryd.pinned (OpenSpec.upto fnExactThousandthsTextSpec)

/-- 'laws.FnExactNodeLine', WHERE WHAT IT READS IS OF BULK AT MOST 1048576: true; the input reads as it did. -/
def fnExactNodeLineUptoRow : OpenClaim := { program := "ytdbgncinaacheaadoor", sum := "5e2c136ad923297309cb060dba2e1f1040fbe67abbb4be5e52020e1883c2d308", func := "loop.example/g00852/laws.FnExactNodeLine", spec := "fnExactNodeLine", recurses := true, named := ["internal/strconv.uint64pow10", "math/bits.deBruijn32tab", "math/bits.deBruijn64tab"], apart := false, laid := [("math/bits.deBruijn32tab", laid_math_bits_deBruijn32tab), ("math/bits.deBruijn64tab", laid_math_bits_deBruijn64tab), ("internal/strconv.uint64pow10", laid_internal_strconv_uint64pow10)], narrowed := true }
def FnExactNodeLineUptoSaid : Prop := fnExactNodeLineUptoRow.holds Tryd.pinned (OpenSpec.upto fnExactNodeLineSpec)

/-- 'laws.FnWrongLines', WHERE WHAT IT READS IS OF BULK AT MOST 1048576: true; the input reads as it did. -/
def fnWrongLinesUptoRow : OpenClaim := { program := "ytdbgncinaacheaadoor", sum := "5e2c136ad923297309cb060dba2e1f1040fbe67abbb4be5e52020e1883c2d308", func := "loop.example/g00852/laws.FnWrongLines", spec := "fnWrongLines", inPlace := ["internal/bytealg.CountString", "internal/bytealg.IndexByteString", "internal/bytealg.IndexString", "internal/abi.NoEscape", "internal/bytealg.MakeNoZero"], unfollowed := true, recurses := true, named := ["unicode/utf8.first", "unicode/utf8.acceptRanges", "internal/bytealg.MaxLen", "strconv.ErrSyntax", "strconv.ErrRange", "internal/strconv.uint64pow10", "math/bits.deBruijn32tab", "math/bits.deBruijn64tab"], apart := false, laid := [("math/bits.deBruijn32tab", laid_math_bits_deBruijn32tab), ("math/bits.deBruijn64tab", laid_math_bits_deBruijn64tab), ("internal/strconv.uint64pow10", laid_internal_strconv_uint64pow10), ("unicode/utf8.acceptRanges", laid_unicode_utf8_acceptRanges), ("strconv.ErrRange", laid_strconv_ErrRange), ("strconv.ErrSyntax", laid_strconv_ErrSyntax), ("unicode/utf8.first", laid_unicode_utf8_first)], narrowed := true }
def FnWrongLinesUptoSaid : Prop := fnWrongLinesUptoRow.holds Tryd.pinned (OpenSpec.upto fnWrongLinesSpec)

/-- 'laws.FnExactPipeLine', WHERE WHAT IT READS IS OF BULK AT MOST 1048576: true; the input reads as it did. -/
def fnExactPipeLineUptoRow : OpenClaim := { program := "ytdbgncinaacheaadoor", sum := "5e2c136ad923297309cb060dba2e1f1040fbe67abbb4be5e52020e1883c2d308", func := "loop.example/g00852/laws.FnExactPipeLine", spec := "fnExactPipeLine", inPlace := ["internal/abi.NoEscape", "internal/bytealg.MakeNoZero"], unfollowed := true, recurses := true, named := ["internal/strconv.uint64pow10", "math/bits.deBruijn32tab", "math/bits.deBruijn64tab"], apart := false, laid := [("math/bits.deBruijn32tab", laid_math_bits_deBruijn32tab), ("math/bits.deBruijn64tab", laid_math_bits_deBruijn64tab), ("internal/strconv.uint64pow10", laid_internal_strconv_uint64pow10)], narrowed := true }
def FnExactPipeLineUptoSaid : Prop := fnExactPipeLineUptoRow.holds Tryd.pinned (OpenSpec.upto fnExactPipeLineSpec)

/-- 'laws.FnExactNetworkText', WHERE WHAT IT READS IS OF BULK AT MOST 1048576: true; the input reads as it did. -/
def fnExactNetworkTextUptoRow : OpenClaim := { program := "ytdbgncinaacheaadoor", sum := "5e2c136ad923297309cb060dba2e1f1040fbe67abbb4be5e52020e1883c2d308", func := "loop.example/g00852/laws.FnExactNetworkText", spec := "fnExactNetworkText", inPlace := ["internal/abi.NoEscape", "internal/bytealg.MakeNoZero"], unfollowed := true, recurses := true, named := ["internal/strconv.uint64pow10", "math/bits.deBruijn32tab", "math/bits.deBruijn64tab"], apart := false, laid := [("math/bits.deBruijn32tab", laid_math_bits_deBruijn32tab), ("math/bits.deBruijn64tab", laid_math_bits_deBruijn64tab), ("internal/strconv.uint64pow10", laid_internal_strconv_uint64pow10)], narrowed := true }
def FnExactNetworkTextUptoSaid : Prop := fnExactNetworkTextUptoRow.holds Tryd.pinned (OpenSpec.upto fnExactNetworkTextSpec)

/-- 'laws.FnExactReadThousandths', WHERE WHAT IT READS IS OF BULK AT MOST 1048576: true; the input reads as it did. -/
def fnExactReadThousandthsUptoRow : OpenClaim := { program := "ytdbgncinaacheaadoor", sum := "5e2c136ad923297309cb060dba2e1f1040fbe67abbb4be5e52020e1883c2d308", func := "loop.example/g00852/laws.FnExactReadThousandths", spec := "fnExactReadThousandths", inPlace := ["internal/bytealg.IndexByteString", "internal/bytealg.IndexString"], recurses := true, named := ["internal/bytealg.MaxLen", "strconv.ErrSyntax", "strconv.ErrRange", "internal/strconv.uint64pow10", "math/bits.deBruijn32tab", "math/bits.deBruijn64tab"], apart := false, laid := [("math/bits.deBruijn32tab", laid_math_bits_deBruijn32tab), ("math/bits.deBruijn64tab", laid_math_bits_deBruijn64tab), ("internal/strconv.uint64pow10", laid_internal_strconv_uint64pow10), ("strconv.ErrRange", laid_strconv_ErrRange), ("strconv.ErrSyntax", laid_strconv_ErrSyntax)], narrowed := true }
def FnExactReadThousandthsUptoSaid : Prop := fnExactReadThousandthsUptoRow.holds Tryd.pinned (OpenSpec.upto fnExactReadThousandthsSpec)

/-- 'laws.FnThousandths', WHERE WHAT IT READS IS OF BULK AT MOST 1048576: true; the input reads as it did. -/
def fnThousandthsUptoRow : OpenClaim := { program := "ytdbgncinaacheaadoor", sum := "5e2c136ad923297309cb060dba2e1f1040fbe67abbb4be5e52020e1883c2d308", func := "loop.example/g00852/laws.FnThousandths", spec := "fnThousandths", inPlace := ["internal/bytealg.IndexByteString", "internal/bytealg.IndexString"], recurses := true, named := ["internal/strconv.uint64pow10", "math/bits.deBruijn32tab", "math/bits.deBruijn64tab", "internal/bytealg.MaxLen", "strconv.ErrSyntax", "strconv.ErrRange"], apart := false, laid := [("math/bits.deBruijn32tab", laid_math_bits_deBruijn32tab), ("math/bits.deBruijn64tab", laid_math_bits_deBruijn64tab), ("internal/strconv.uint64pow10", laid_internal_strconv_uint64pow10), ("strconv.ErrRange", laid_strconv_ErrRange), ("strconv.ErrSyntax", laid_strconv_ErrSyntax)], narrowed := true }
def FnThousandthsUptoSaid : Prop := fnThousandthsUptoRow.holds Tryd.pinned (OpenSpec.upto fnThousandthsSpec)

/-- 'laws.FnExactReadNodeLine', WHERE WHAT IT READS IS OF BULK AT MOST 1048576: true; the input reads as it did. -/
def fnExactReadNodeLineUptoRow : OpenClaim := { program := "ytdbgncinaacheaadoor", sum := "5e2c136ad923297309cb060dba2e1f1040fbe67abbb4be5e52020e1883c2d308", func := "loop.example/g00852/laws.FnExactReadNodeLine", spec := "fnExactReadNodeLine", inPlace := ["internal/bytealg.CountString", "internal/bytealg.IndexByteString", "internal/bytealg.IndexString"], recurses := true, named := ["unicode/utf8.first", "unicode/utf8.acceptRanges", "internal/bytealg.MaxLen", "strconv.ErrSyntax", "strconv.ErrRange", "internal/strconv.uint64pow10", "math/bits.deBruijn32tab", "math/bits.deBruijn64tab"], apart := false, laid := [("math/bits.deBruijn32tab", laid_math_bits_deBruijn32tab), ("math/bits.deBruijn64tab", laid_math_bits_deBruijn64tab), ("internal/strconv.uint64pow10", laid_internal_strconv_uint64pow10), ("unicode/utf8.acceptRanges", laid_unicode_utf8_acceptRanges), ("strconv.ErrRange", laid_strconv_ErrRange), ("strconv.ErrSyntax", laid_strconv_ErrSyntax), ("unicode/utf8.first", laid_unicode_utf8_first)], narrowed := true }
def FnExactReadNodeLineUptoSaid : Prop := fnExactReadNodeLineUptoRow.holds Tryd.pinned (OpenSpec.upto fnExactReadNodeLineSpec)

/-- 'laws.FnExactFirstWrongLine', WHERE WHAT IT READS IS OF BULK AT MOST 1048576: true; the input reads as it did. -/
def fnExactFirstWrongLineUptoRow : OpenClaim := { program := "ytdbgncinaacheaadoor", sum := "5e2c136ad923297309cb060dba2e1f1040fbe67abbb4be5e52020e1883c2d308", func := "loop.example/g00852/laws.FnExactFirstWrongLine", spec := "fnExactFirstWrongLine", inPlace := ["internal/bytealg.CountString", "internal/bytealg.IndexByteString", "internal/bytealg.IndexString", "internal/abi.NoEscape", "internal/bytealg.MakeNoZero"], unfollowed := true, recurses := true, named := ["unicode/utf8.first", "unicode/utf8.acceptRanges", "internal/bytealg.MaxLen", "strconv.ErrSyntax", "strconv.ErrRange", "internal/strconv.uint64pow10", "math/bits.deBruijn32tab", "math/bits.deBruijn64tab"], apart := false, laid := [("math/bits.deBruijn32tab", laid_math_bits_deBruijn32tab), ("math/bits.deBruijn64tab", laid_math_bits_deBruijn64tab), ("internal/strconv.uint64pow10", laid_internal_strconv_uint64pow10), ("unicode/utf8.acceptRanges", laid_unicode_utf8_acceptRanges), ("strconv.ErrRange", laid_strconv_ErrRange), ("strconv.ErrSyntax", laid_strconv_ErrSyntax), ("unicode/utf8.first", laid_unicode_utf8_first)], narrowed := true }
def FnExactFirstWrongLineUptoSaid : Prop := fnExactFirstWrongLineUptoRow.holds Tryd.pinned (OpenSpec.upto fnExactFirstWrongLineSpec)

/-- 'laws.FnNetworkText', WHERE WHAT IT READS IS OF BULK AT MOST 1048576: true; the input reads as it did. -/
def fnNetworkTextUptoRow : OpenClaim := { program := "ytdbgncinaacheaadoor", sum := "5e2c136ad923297309cb060dba2e1f1040fbe67abbb4be5e52020e1883c2d308", func := "loop.example/g00852/laws.FnNetworkText", spec := "fnNetworkText", inPlace := ["internal/abi.NoEscape", "internal/bytealg.MakeNoZero", "internal/bytealg.CountString", "internal/bytealg.IndexByteString", "internal/bytealg.IndexString"], unfollowed := true, recurses := true, named := ["internal/strconv.uint64pow10", "math/bits.deBruijn32tab", "math/bits.deBruijn64tab", "unicode/utf8.first", "unicode/utf8.acceptRanges", "internal/bytealg.MaxLen", "strconv.ErrSyntax", "strconv.ErrRange"], apart := false, laid := [("math/bits.deBruijn32tab", laid_math_bits_deBruijn32tab), ("math/bits.deBruijn64tab", laid_math_bits_deBruijn64tab), ("internal/strconv.uint64pow10", laid_internal_strconv_uint64pow10), ("unicode/utf8.acceptRanges", laid_unicode_utf8_acceptRanges), ("strconv.ErrRange", laid_strconv_ErrRange), ("strconv.ErrSyntax", laid_strconv_ErrSyntax), ("unicode/utf8.first", laid_unicode_utf8_first)], narrowed := true }
def FnNetworkTextUptoSaid : Prop := fnNetworkTextUptoRow.holds Tryd.pinned (OpenSpec.upto fnNetworkTextSpec)

end Rows
end Go.Proofs.YtdbgncinaacheaaDoor
