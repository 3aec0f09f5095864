/-
  DERIVED. GIVEN WITH THE SEED: THE CARDS: each row of YtdbgncinaacheaaDoorRows.lean that lists a variable, with what it lists TIED to the program's text (the seventh form; the later family's looks); each row that meets fmt, with fmt's text TOLD by the authors' own Lean function (tested against real Go, not proved from fmt's source: count such statements apart). THE CARD IS WHAT COUNTS. Prove the row's statement (the work); the ties are given (YtdbgncinaacheaaDoorTie.lean); close each card by the builder's one call (the guide's Derived/Test/ToyasCard.lean, 'card_holds'). Laid BY PROGRAM, IN A SANDBOX (cutbox-door.mjs). By AI agents, Wed Nov 11 2026. No macro, syntax, notation, axiom, sorry.
-/
import Derived.Test.YtdbgncinaacheaaDoorRows
import GoSem.ClaimSeven
namespace Go.Proofs.YtdbgncinaacheaaDoor
namespace Rows

/-- THE TIED CARD OF 'laws.FnExactReadNetwork'. -/
def fnExactReadNetworkCard : Claim7 := { stood := { row := fnExactReadNetworkRow, standIns := [], harness := (true, "1258e6a8963d9642433132aed7ff89507273dc909a22a34a2029c36c120267fa"), looks := true }, kinds := [], alts := [], laidByText := true, laidKinds := [.data, .data, .data, .data, .sentinel, .sentinel, .pinned], laidTests := true, laidLooks := .later }
def FnExactReadNetworkCardSaid : Prop := Claim7.holds Tryd.pinned (.plain (OpenSpec.ofChange fnExactReadNetworkSpec)) fnExactReadNetworkCard

/-- THE TIED CARD OF 'laws.FnExactThousandthsText'. -/
def fnExactThousandthsTextCard : Claim7 := { stood := { row := fnExactThousandthsTextRow, standIns := [], harness := (true, "1258e6a8963d9642433132aed7ff89507273dc909a22a34a2029c36c120267fa"), looks := true }, kinds := [], alts := [], laidByText := true, laidKinds := [.data, .data, .data], laidTests := true, laidLooks := .later }
def FnExactThousandthsTextCardSaid : Prop := Claim7.holds Tryd.pinned (.plain (OpenSpec.ofChange fnExactThousandthsTextSpec)) fnExactThousandthsTextCard

/-- THE TIED CARD OF 'laws.FnExactNodeLine'. -/
def fnExactNodeLineCard : Claim7 := { stood := { row := fnExactNodeLineRow, standIns := [], harness := (true, "1258e6a8963d9642433132aed7ff89507273dc909a22a34a2029c36c120267fa"), looks := true }, kinds := [], alts := [], laidByText := true, laidKinds := [.data, .data, .data], laidTests := true, laidLooks := .later }
def FnExactNodeLineCardSaid : Prop := Claim7.holds Tryd.pinned (.plain (OpenSpec.ofChange fnExactNodeLineSpec)) fnExactNodeLineCard

/-- THE TIED CARD OF 'laws.FnWrongLines'. -/
def fnWrongLinesCard : Claim7 := { stood := { row := fnWrongLinesRow, standIns := [], harness := (true, "1258e6a8963d9642433132aed7ff89507273dc909a22a34a2029c36c120267fa"), looks := true }, kinds := [], alts := [], laidByText := true, laidKinds := [.data, .data, .data, .data, .sentinel, .sentinel, .pinned], laidTests := true, laidLooks := .later }
def FnWrongLinesCardSaid : Prop := Claim7.holds Tryd.pinned (.plain (OpenSpec.ofChange fnWrongLinesSpec)) fnWrongLinesCard

/-- THE TIED CARD OF 'laws.FnExactPipeLine'. -/
def fnExactPipeLineCard : Claim7 := { stood := { row := fnExactPipeLineRow, standIns := [], harness := (true, "1258e6a8963d9642433132aed7ff89507273dc909a22a34a2029c36c120267fa"), looks := true }, kinds := [], alts := [], laidByText := true, laidKinds := [.data, .data, .data], laidTests := true, laidLooks := .later }
def FnExactPipeLineCardSaid : Prop := Claim7.holds Tryd.pinned (.plain (OpenSpec.ofChange fnExactPipeLineSpec)) fnExactPipeLineCard

/-- THE TIED CARD OF 'laws.FnExactNetworkText'. -/
def fnExactNetworkTextCard : Claim7 := { stood := { row := fnExactNetworkTextRow, standIns := [], harness := (true, "1258e6a8963d9642433132aed7ff89507273dc909a22a34a2029c36c120267fa"), looks := true }, kinds := [], alts := [], laidByText := true, laidKinds := [.data, .data, .data], laidTests := true, laidLooks := .later }
def FnExactNetworkTextCardSaid : Prop := Claim7.holds Tryd.pinned (.plain (OpenSpec.ofChange fnExactNetworkTextSpec)) fnExactNetworkTextCard

/-- THE TIED CARD OF 'laws.FnExactReadThousandths'. -/
def fnExactReadThousandthsCard : Claim7 := { stood := { row := fnExactReadThousandthsRow, standIns := [], harness := (true, "1258e6a8963d9642433132aed7ff89507273dc909a22a34a2029c36c120267fa"), looks := true }, kinds := [], alts := [], laidByText := true, laidKinds := [.data, .data, .data, .sentinel, .sentinel], laidTests := true, laidLooks := .later }
def FnExactReadThousandthsCardSaid : Prop := Claim7.holds Tryd.pinned (.plain (OpenSpec.ofChange fnExactReadThousandthsSpec)) fnExactReadThousandthsCard

/-- THE TIED CARD OF 'laws.FnThousandths'. -/
def fnThousandthsCard : Claim7 := { stood := { row := fnThousandthsRow, standIns := [], harness := (true, "1258e6a8963d9642433132aed7ff89507273dc909a22a34a2029c36c120267fa"), looks := true }, kinds := [], alts := [], laidByText := true, laidKinds := [.data, .data, .data, .sentinel, .sentinel], laidTests := true, laidLooks := .later }
def FnThousandthsCardSaid : Prop := Claim7.holds Tryd.pinned (.plain (OpenSpec.ofChange fnThousandthsSpec)) fnThousandthsCard

/-- THE TIED CARD OF 'laws.FnExactReadNodeLine'. -/
def fnExactReadNodeLineCard : Claim7 := { stood := { row := fnExactReadNodeLineRow, standIns := [], harness := (true, "1258e6a8963d9642433132aed7ff89507273dc909a22a34a2029c36c120267fa"), looks := true }, kinds := [], alts := [], laidByText := true, laidKinds := [.data, .data, .data, .data, .sentinel, .sentinel, .pinned], laidTests := true, laidLooks := .later }
def FnExactReadNodeLineCardSaid : Prop := Claim7.holds Tryd.pinned (.plain (OpenSpec.ofChange fnExactReadNodeLineSpec)) fnExactReadNodeLineCard

/-- THE TIED CARD OF 'laws.FnExactFirstWrongLine'. -/
def fnExactFirstWrongLineCard : Claim7 := { stood := { row := fnExactFirstWrongLineRow, standIns := [], harness := (true, "1258e6a8963d9642433132aed7ff89507273dc909a22a34a2029c36c120267fa"), looks := true }, kinds := [], alts := [], laidByText := true, laidKinds := [.data, .data, .data, .data, .sentinel, .sentinel, .pinned], laidTests := true, laidLooks := .later }
def FnExactFirstWrongLineCardSaid : Prop := Claim7.holds Tryd.pinned (.plain (OpenSpec.ofChange fnExactFirstWrongLineSpec)) fnExactFirstWrongLineCard

/-- THE TIED CARD OF 'laws.FnNetworkText'. -/
def fnNetworkTextCard : Claim7 := { stood := { row := fnNetworkTextRow, standIns := [], harness := (true, "1258e6a8963d9642433132aed7ff89507273dc909a22a34a2029c36c120267fa"), looks := true }, kinds := [], alts := [], laidByText := true, laidKinds := [.data, .data, .data, .data, .sentinel, .sentinel, .pinned], laidTests := true, laidLooks := .later }
def FnNetworkTextCardSaid : Prop := Claim7.holds Tryd.pinned (.plain (OpenSpec.ofChange fnNetworkTextSpec)) fnNetworkTextCard

/-- THE SECOND FORM's CARD OF 'laws.FnExactReadNetwork'. -/
def fnExactReadNetworkUptoCard : Claim7 := { stood := { row := fnExactReadNetworkUptoRow, standIns := [], harness := (true, "1258e6a8963d9642433132aed7ff89507273dc909a22a34a2029c36c120267fa"), looks := true }, kinds := [], alts := [], laidByText := true, laidKinds := [.data, .data, .data, .data, .sentinel, .sentinel, .pinned], laidTests := true, laidLooks := .later }
def FnExactReadNetworkUptoCardSaid : Prop := Claim7.holds Tryd.pinned (.plain (OpenSpec.upto fnExactReadNetworkSpec)) fnExactReadNetworkUptoCard

/-- THE SECOND FORM's CARD OF 'laws.FnExactThousandthsText'. -/
def fnExactThousandthsTextUptoCard : Claim7 := { stood := { row := fnExactThousandthsTextUptoRow, standIns := [], harness := (true, "1258e6a8963d9642433132aed7ff89507273dc909a22a34a2029c36c120267fa"), looks := true }, kinds := [], alts := [], laidByText := true, laidKinds := [.data, .data, .data], laidTests := true, laidLooks := .later }
def FnExactThousandthsTextUptoCardSaid : Prop := Claim7.holds Tryd.pinned (.plain (OpenSpec.upto fnExactThousandthsTextSpec)) fnExactThousandthsTextUptoCard

/-- THE SECOND FORM's CARD OF 'laws.FnExactNodeLine'. -/
def fnExactNodeLineUptoCard : Claim7 := { stood := { row := fnExactNodeLineUptoRow, standIns := [], harness := (true, "1258e6a8963d9642433132aed7ff89507273dc909a22a34a2029c36c120267fa"), looks := true }, kinds := [], alts := [], laidByText := true, laidKinds := [.data, .data, .data], laidTests := true, laidLooks := .later }
def FnExactNodeLineUptoCardSaid : Prop := Claim7.holds Tryd.pinned (.plain (OpenSpec.upto fnExactNodeLineSpec)) fnExactNodeLineUptoCard

/-- THE SECOND FORM's CARD OF 'laws.FnWrongLines'. -/
def fnWrongLinesUptoCard : Claim7 := { stood := { row := fnWrongLinesUptoRow, standIns := [], harness := (true, "1258e6a8963d9642433132aed7ff89507273dc909a22a34a2029c36c120267fa"), looks := true }, kinds := [], alts := [], laidByText := true, laidKinds := [.data, .data, .data, .data, .sentinel, .sentinel, .pinned], laidTests := true, laidLooks := .later }
def FnWrongLinesUptoCardSaid : Prop := Claim7.holds Tryd.pinned (.plain (OpenSpec.upto fnWrongLinesSpec)) fnWrongLinesUptoCard

/-- THE SECOND FORM's CARD OF 'laws.FnExactPipeLine'. -/
def fnExactPipeLineUptoCard : Claim7 := { stood := { row := fnExactPipeLineUptoRow, standIns := [], harness := (true, "1258e6a8963d9642433132aed7ff89507273dc909a22a34a2029c36c120267fa"), looks := true }, kinds := [], alts := [], laidByText := true, laidKinds := [.data, .data, .data], laidTests := true, laidLooks := .later }
def FnExactPipeLineUptoCardSaid : Prop := Claim7.holds Tryd.pinned (.plain (OpenSpec.upto fnExactPipeLineSpec)) fnExactPipeLineUptoCard

/-- THE SECOND FORM's CARD OF 'laws.FnExactNetworkText'. -/
def fnExactNetworkTextUptoCard : Claim7 := { stood := { row := fnExactNetworkTextUptoRow, standIns := [], harness := (true, "1258e6a8963d9642433132aed7ff89507273dc909a22a34a2029c36c120267fa"), looks := true }, kinds := [], alts := [], laidByText := true, laidKinds := [.data, .data, .data], laidTests := true, laidLooks := .later }
def FnExactNetworkTextUptoCardSaid : Prop := Claim7.holds Tryd.pinned (.plain (OpenSpec.upto fnExactNetworkTextSpec)) fnExactNetworkTextUptoCard

/-- THE SECOND FORM's CARD OF 'laws.FnExactReadThousandths'. -/
def fnExactReadThousandthsUptoCard : Claim7 := { stood := { row := fnExactReadThousandthsUptoRow, standIns := [], harness := (true, "1258e6a8963d9642433132aed7ff89507273dc909a22a34a2029c36c120267fa"), looks := true }, kinds := [], alts := [], laidByText := true, laidKinds := [.data, .data, .data, .sentinel, .sentinel], laidTests := true, laidLooks := .later }
def FnExactReadThousandthsUptoCardSaid : Prop := Claim7.holds Tryd.pinned (.plain (OpenSpec.upto fnExactReadThousandthsSpec)) fnExactReadThousandthsUptoCard

/-- THE SECOND FORM's CARD OF 'laws.FnThousandths'. -/
def fnThousandthsUptoCard : Claim7 := { stood := { row := fnThousandthsUptoRow, standIns := [], harness := (true, "1258e6a8963d9642433132aed7ff89507273dc909a22a34a2029c36c120267fa"), looks := true }, kinds := [], alts := [], laidByText := true, laidKinds := [.data, .data, .data, .sentinel, .sentinel], laidTests := true, laidLooks := .later }
def FnThousandthsUptoCardSaid : Prop := Claim7.holds Tryd.pinned (.plain (OpenSpec.upto fnThousandthsSpec)) fnThousandthsUptoCard

/-- THE SECOND FORM's CARD OF 'laws.FnExactReadNodeLine'. -/
def fnExactReadNodeLineUptoCard : Claim7 := { stood := { row := fnExactReadNodeLineUptoRow, standIns := [], harness := (true, "1258e6a8963d9642433132aed7ff89507273dc909a22a34a2029c36c120267fa"), looks := true }, kinds := [], alts := [], laidByText := true, laidKinds := [.data, .data, .data, .data, .sentinel, .sentinel, .pinned], laidTests := true, laidLooks := .later }
def FnExactReadNodeLineUptoCardSaid : Prop := Claim7.holds Tryd.pinned (.plain (OpenSpec.upto fnExactReadNodeLineSpec)) fnExactReadNodeLineUptoCard

/-- THE SECOND FORM's CARD OF 'laws.FnExactFirstWrongLine'. -/
def fnExactFirstWrongLineUptoCard : Claim7 := { stood := { row := fnExactFirstWrongLineUptoRow, standIns := [], harness := (true, "1258e6a8963d9642433132aed7ff89507273dc909a22a34a2029c36c120267fa"), looks := true }, kinds := [], alts := [], laidByText := true, laidKinds := [.data, .data, .data, .data, .sentinel, .sentinel, .pinned], laidTests := true, laidLooks := .later }
def FnExactFirstWrongLineUptoCardSaid : Prop := Claim7.holds Tryd.pinned (.plain (OpenSpec.upto fnExactFirstWrongLineSpec)) fnExactFirstWrongLineUptoCard

/-- THE SECOND FORM's CARD OF 'laws.FnNetworkText'. -/
def fnNetworkTextUptoCard : Claim7 := { stood := { row := fnNetworkTextUptoRow, standIns := [], harness := (true, "1258e6a8963d9642433132aed7ff89507273dc909a22a34a2029c36c120267fa"), looks := true }, kinds := [], alts := [], laidByText := true, laidKinds := [.data, .data, .data, .data, .sentinel, .sentinel, .pinned], laidTests := true, laidLooks := .later }
def FnNetworkTextUptoCardSaid : Prop := Claim7.holds Tryd.pinned (.plain (OpenSpec.upto fnNetworkTextSpec)) fnNetworkTextUptoCard
end Rows
end Go.Proofs.YtdbgncinaacheaaDoor
