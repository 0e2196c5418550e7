/-
  DERIVED. GIVEN WITH THE SEED: THE CARDS: each row of YtlghobefhmpfkaaGreatDoorRows.lean that lists a variable, with what it lists TIED to the program's text (the seventh form; the later family's looks); each row that meets fmt, with fmt's text TOLD by the authors' own Lean function (tested against real Go, not proved from fmt's source: count such statements apart). THE CARD IS WHAT COUNTS. Prove the row's statement (the work); the ties are given (YtlghobefhmpfkaaGreatDoorTie.lean); close each card by the builder's one call (the guide's Derived/Test/ToyasCard.lean, 'card_holds'). Laid BY PROGRAM, IN A SANDBOX (cutbox-door.mjs). By AI agents, Wed Nov 11 2026. No macro, syntax, notation, axiom, sorry.
-/
import Derived.Test.YtlghobefhmpfkaaGreatDoorRows
import GoSem.ClaimSeven
namespace Go.Proofs.YtlghobefhmpfkaaGreatDoor
namespace Rows

/-- THE TIED CARD OF 'redlinelaw14.RcsfmtRuns'. -/
def rcsfmtRunsCard : Claim7 := { stood := { row := rcsfmtRunsRow, standIns := [], harness := (true, "7e08d75b4319648fd538e5445bf16c9a304c97241166c099cbb2454370793bb3"), looks := true }, kinds := [], alts := [], laidByText := true, laidKinds := [.data, .data, .data, .data, .handle, .sentinel, .sentinel, .pinned], laidTests := true, laidLooks := .later }
def RcsfmtRunsCardSaid : Prop := Claim7.holds Tryz.pinned (.plain (OpenSpec.ofChange rcsfmtRunsSpec)) rcsfmtRunsCard

/-- THE TIED CARD OF 'redlinelaw13.EdfmtRuns'. -/
def edfmtRunsCard : Claim7 := { stood := { row := edfmtRunsRow, standIns := [], harness := (true, "7e08d75b4319648fd538e5445bf16c9a304c97241166c099cbb2454370793bb3"), looks := true }, kinds := [], alts := [], laidByText := true, laidKinds := [.data, .data, .data, .data, .handle, .sentinel, .sentinel, .pinned], laidTests := true, laidLooks := .later }
def EdfmtRunsCardSaid : Prop := Claim7.holds Tryz.pinned (.plain (OpenSpec.ofChange edfmtRunsSpec)) edfmtRunsCard

/-- THE TIED CARD OF 'redlinelaw13.EdfmtRaw'. -/
def edfmtRawCard : Claim7 := { stood := { row := edfmtRawRow, standIns := [], harness := (true, "7e08d75b4319648fd538e5445bf16c9a304c97241166c099cbb2454370793bb3"), looks := true }, kinds := [], alts := [], laidByText := true, laidKinds := [.data, .data, .data, .data, .handle, .sentinel, .sentinel, .pinned], laidTests := true, laidLooks := .later }
def EdfmtRawCardSaid : Prop := Claim7.holds Tryz.pinned (.plain (OpenSpec.ofChange edfmtRawSpec)) edfmtRawCard

/-- THE TIED CARD OF 'redlinelaw12.NormalParses'. -/
def normalParsesCard : Claim7 := { stood := { row := normalParsesRow, standIns := [], harness := (true, "7e08d75b4319648fd538e5445bf16c9a304c97241166c099cbb2454370793bb3"), looks := true }, kinds := [], alts := [], laidByText := true, laidKinds := [.data, .data, .data, .data, .handle, .sentinel, .sentinel, .pinned], laidTests := true, laidLooks := .later }
def NormalParsesCardSaid : Prop := Claim7.holds Tryz.pinned (.plain (OpenSpec.ofChange normalParsesSpec)) normalParsesCard

/-- THE TIED CARD OF 'redlinelaw16.UnifiedAgain'. -/
def unifiedAgainCard : Claim7 := { stood := { row := unifiedAgainRow, standIns := [], harness := (true, "7e08d75b4319648fd538e5445bf16c9a304c97241166c099cbb2454370793bb3"), looks := true }, kinds := [], alts := [], laidByText := true, laidKinds := [.data, .data, .data, .data, .sentinel, .sentinel, .pinned], laidTests := true, laidLooks := .later }
def UnifiedAgainCardSaid : Prop := Claim7.holds Tryz.pinned (.plain (OpenSpec.ofChange unifiedAgainSpec)) unifiedAgainCard

/-- THE TIED CARD OF 'redlinelaw15.CtxfmtAgain'. -/
def ctxfmtAgainCard : Claim7 := { stood := { row := ctxfmtAgainRow, standIns := [], harness := (true, "7e08d75b4319648fd538e5445bf16c9a304c97241166c099cbb2454370793bb3"), looks := true }, kinds := [], alts := [], laidByText := true, laidKinds := [.data, .data, .data, .data, .sentinel, .sentinel, .pinned], laidTests := true, laidLooks := .later }
def CtxfmtAgainCardSaid : Prop := Claim7.holds Tryz.pinned (.plain (OpenSpec.ofChange ctxfmtAgainSpec)) ctxfmtAgainCard

/-- THE TIED CARD OF 'redlinelaw15.CtxfmtParses'. -/
def ctxfmtParsesCard : Claim7 := { stood := { row := ctxfmtParsesRow, standIns := [], harness := (true, "7e08d75b4319648fd538e5445bf16c9a304c97241166c099cbb2454370793bb3"), looks := true }, kinds := [], alts := [], laidByText := true, laidKinds := [.data, .data, .data, .data, .handle, .sentinel, .sentinel, .pinned], laidTests := true, laidLooks := .later }
def CtxfmtParsesCardSaid : Prop := Claim7.holds Tryz.pinned (.plain (OpenSpec.ofChange ctxfmtParsesSpec)) ctxfmtParsesCard

/-- THE TIED CARD OF 'redlinelaw16.UnifiedParses'. -/
def unifiedParsesCard : Claim7 := { stood := { row := unifiedParsesRow, standIns := [], harness := (true, "7e08d75b4319648fd538e5445bf16c9a304c97241166c099cbb2454370793bb3"), looks := true }, kinds := [], alts := [], laidByText := true, laidKinds := [.data, .data, .data, .data, .handle, .sentinel, .sentinel, .pinned], laidTests := true, laidLooks := .later }
def UnifiedParsesCardSaid : Prop := Claim7.holds Tryz.pinned (.plain (OpenSpec.ofChange unifiedParsesSpec)) unifiedParsesCard

/-- THE SECOND FORM's CARD OF 'redlinelaw14.RcsfmtRuns'. -/
def rcsfmtRunsUptoCard : Claim7 := { stood := { row := rcsfmtRunsUptoRow, standIns := [], harness := (true, "7e08d75b4319648fd538e5445bf16c9a304c97241166c099cbb2454370793bb3"), looks := true }, kinds := [], alts := [], laidByText := true, laidKinds := [.data, .data, .data, .data, .handle, .sentinel, .sentinel, .pinned], laidTests := true, laidLooks := .later }
def RcsfmtRunsUptoCardSaid : Prop := Claim7.holds Tryz.pinned (.plain (OpenSpec.upto rcsfmtRunsSpec)) rcsfmtRunsUptoCard

/-- THE SECOND FORM's CARD OF 'redlinelaw13.EdfmtRuns'. -/
def edfmtRunsUptoCard : Claim7 := { stood := { row := edfmtRunsUptoRow, standIns := [], harness := (true, "7e08d75b4319648fd538e5445bf16c9a304c97241166c099cbb2454370793bb3"), looks := true }, kinds := [], alts := [], laidByText := true, laidKinds := [.data, .data, .data, .data, .handle, .sentinel, .sentinel, .pinned], laidTests := true, laidLooks := .later }
def EdfmtRunsUptoCardSaid : Prop := Claim7.holds Tryz.pinned (.plain (OpenSpec.upto edfmtRunsSpec)) edfmtRunsUptoCard

/-- THE SECOND FORM's CARD OF 'redlinelaw13.EdfmtRaw'. -/
def edfmtRawUptoCard : Claim7 := { stood := { row := edfmtRawUptoRow, standIns := [], harness := (true, "7e08d75b4319648fd538e5445bf16c9a304c97241166c099cbb2454370793bb3"), looks := true }, kinds := [], alts := [], laidByText := true, laidKinds := [.data, .data, .data, .data, .handle, .sentinel, .sentinel, .pinned], laidTests := true, laidLooks := .later }
def EdfmtRawUptoCardSaid : Prop := Claim7.holds Tryz.pinned (.plain (OpenSpec.upto edfmtRawSpec)) edfmtRawUptoCard

/-- THE SECOND FORM's CARD OF 'redlinelaw12.NormalParses'. -/
def normalParsesUptoCard : Claim7 := { stood := { row := normalParsesUptoRow, standIns := [], harness := (true, "7e08d75b4319648fd538e5445bf16c9a304c97241166c099cbb2454370793bb3"), looks := true }, kinds := [], alts := [], laidByText := true, laidKinds := [.data, .data, .data, .data, .handle, .sentinel, .sentinel, .pinned], laidTests := true, laidLooks := .later }
def NormalParsesUptoCardSaid : Prop := Claim7.holds Tryz.pinned (.plain (OpenSpec.upto normalParsesSpec)) normalParsesUptoCard

/-- THE SECOND FORM's CARD OF 'redlinelaw16.UnifiedAgain'. -/
def unifiedAgainUptoCard : Claim7 := { stood := { row := unifiedAgainUptoRow, standIns := [], harness := (true, "7e08d75b4319648fd538e5445bf16c9a304c97241166c099cbb2454370793bb3"), looks := true }, kinds := [], alts := [], laidByText := true, laidKinds := [.data, .data, .data, .data, .sentinel, .sentinel, .pinned], laidTests := true, laidLooks := .later }
def UnifiedAgainUptoCardSaid : Prop := Claim7.holds Tryz.pinned (.plain (OpenSpec.upto unifiedAgainSpec)) unifiedAgainUptoCard

/-- THE SECOND FORM's CARD OF 'redlinelaw15.CtxfmtAgain'. -/
def ctxfmtAgainUptoCard : Claim7 := { stood := { row := ctxfmtAgainUptoRow, standIns := [], harness := (true, "7e08d75b4319648fd538e5445bf16c9a304c97241166c099cbb2454370793bb3"), looks := true }, kinds := [], alts := [], laidByText := true, laidKinds := [.data, .data, .data, .data, .sentinel, .sentinel, .pinned], laidTests := true, laidLooks := .later }
def CtxfmtAgainUptoCardSaid : Prop := Claim7.holds Tryz.pinned (.plain (OpenSpec.upto ctxfmtAgainSpec)) ctxfmtAgainUptoCard

/-- THE SECOND FORM's CARD OF 'redlinelaw15.CtxfmtParses'. -/
def ctxfmtParsesUptoCard : Claim7 := { stood := { row := ctxfmtParsesUptoRow, standIns := [], harness := (true, "7e08d75b4319648fd538e5445bf16c9a304c97241166c099cbb2454370793bb3"), looks := true }, kinds := [], alts := [], laidByText := true, laidKinds := [.data, .data, .data, .data, .handle, .sentinel, .sentinel, .pinned], laidTests := true, laidLooks := .later }
def CtxfmtParsesUptoCardSaid : Prop := Claim7.holds Tryz.pinned (.plain (OpenSpec.upto ctxfmtParsesSpec)) ctxfmtParsesUptoCard

/-- THE SECOND FORM's CARD OF 'redlinelaw16.UnifiedParses'. -/
def unifiedParsesUptoCard : Claim7 := { stood := { row := unifiedParsesUptoRow, standIns := [], harness := (true, "7e08d75b4319648fd538e5445bf16c9a304c97241166c099cbb2454370793bb3"), looks := true }, kinds := [], alts := [], laidByText := true, laidKinds := [.data, .data, .data, .data, .handle, .sentinel, .sentinel, .pinned], laidTests := true, laidLooks := .later }
def UnifiedParsesUptoCardSaid : Prop := Claim7.holds Tryz.pinned (.plain (OpenSpec.upto unifiedParsesSpec)) unifiedParsesUptoCard
end Rows
end Go.Proofs.YtlghobefhmpfkaaGreatDoor
