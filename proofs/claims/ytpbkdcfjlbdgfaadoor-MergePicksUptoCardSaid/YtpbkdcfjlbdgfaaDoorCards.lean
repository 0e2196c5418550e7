/-
  DERIVED. GIVEN WITH THE SEED: THE CARDS: each row of YtpbkdcfjlbdgfaaDoorRows.lean that lists a variable, with what it lists TIED to the program's text (the seventh form; the later family's looks); each row that meets fmt, with fmt's text TOLD by the authors' own Lean function (tested against real Go, not proved from fmt's source: count such statements apart). THE CARD IS WHAT COUNTS. Prove the row's statement (the work); the ties are given (YtpbkdcfjlbdgfaaDoorTie.lean); close each card by the builder's one call (the guide's Derived/Test/ToyasCard.lean, 'card_holds'). Laid BY PROGRAM, IN A SANDBOX (cutbox-door.mjs). By AI agents, Wed Nov 11 2026. No macro, syntax, notation, axiom, sorry.
-/
import Derived.Test.YtpbkdcfjlbdgfaaDoorRows
import GoSem.ClaimSeven
namespace Go.Proofs.YtpbkdcfjlbdgfaaDoor
namespace Rows

/-- THE TIED CARD OF 'redlinelaw12.NormalPrints'. -/
def normalPrintsCard : Claim7 := { stood := { row := normalPrintsRow, standIns := [], harness := (true, "d3ff70e63594a90df5932b64630767841fe1beb257f8715459547d882341e8cd"), looks := true }, kinds := [], alts := [], laidByText := true, laidKinds := [.data, .data, .data], laidTests := true, laidLooks := .later }
def NormalPrintsCardSaid : Prop := Claim7.holds Tryd.pinned (.plain (OpenSpec.ofChange normalPrintsSpec)) normalPrintsCard

/-- THE TIED CARD OF 'redlinelaw14.RcsfmtPrints'. -/
def rcsfmtPrintsCard : Claim7 := { stood := { row := rcsfmtPrintsRow, standIns := [], harness := (true, "d3ff70e63594a90df5932b64630767841fe1beb257f8715459547d882341e8cd"), looks := true }, kinds := [], alts := [], laidByText := true, laidKinds := [.data, .data, .data], laidTests := true, laidLooks := .later }
def RcsfmtPrintsCardSaid : Prop := Claim7.holds Tryd.pinned (.plain (OpenSpec.ofChange rcsfmtPrintsSpec)) rcsfmtPrintsCard

/-- THE TIED CARD OF 'redlinelaw01.NumWords'. -/
def numWordsCard : Claim7 := { stood := { row := numWordsRow, standIns := [], harness := (true, "d3ff70e63594a90df5932b64630767841fe1beb257f8715459547d882341e8cd"), looks := true }, kinds := [], alts := [], laidByText := true, laidKinds := [.data, .pinned], laidTests := true, laidLooks := .later }
def NumWordsCardSaid : Prop := Claim7.holds Tryd.pinned (.plain (OpenSpec.ofChange numWordsSpec)) numWordsCard

/-- THE TIED CARD OF 'redlinelaw13.EdfmtPrints'. -/
def edfmtPrintsCard : Claim7 := { stood := { row := edfmtPrintsRow, standIns := [], harness := (true, "d3ff70e63594a90df5932b64630767841fe1beb257f8715459547d882341e8cd"), looks := true }, kinds := [], alts := [], laidByText := true, laidKinds := [.data, .data, .data], laidTests := true, laidLooks := .later }
def EdfmtPrintsCardSaid : Prop := Claim7.holds Tryd.pinned (.plain (OpenSpec.ofChange edfmtPrintsSpec)) edfmtPrintsCard

/-- THE TIED CARD OF 'redlinelaw16.UnifiedPrints'. -/
def unifiedPrintsCard : Claim7 := { stood := { row := unifiedPrintsRow, standIns := [], harness := (true, "d3ff70e63594a90df5932b64630767841fe1beb257f8715459547d882341e8cd"), looks := true }, kinds := [], alts := [], laidByText := true, laidKinds := [.data, .data, .data], laidTests := true, laidLooks := .later }
def UnifiedPrintsCardSaid : Prop := Claim7.holds Tryd.pinned (.plain (OpenSpec.ofChange unifiedPrintsSpec)) unifiedPrintsCard

/-- THE TIED CARD OF 'redlinelaw15.CtxfmtPrints'. -/
def ctxfmtPrintsCard : Claim7 := { stood := { row := ctxfmtPrintsRow, standIns := [], harness := (true, "d3ff70e63594a90df5932b64630767841fe1beb257f8715459547d882341e8cd"), looks := true }, kinds := [], alts := [], laidByText := true, laidKinds := [.data, .data, .data], laidTests := true, laidLooks := .later }
def CtxfmtPrintsCardSaid : Prop := Claim7.holds Tryd.pinned (.plain (OpenSpec.ofChange ctxfmtPrintsSpec)) ctxfmtPrintsCard

/-- THE TIED CARD OF 'redlinelaw01.NumNumbers'. -/
def numNumbersCard : Claim7 := { stood := { row := numNumbersRow, standIns := [], harness := (true, "d3ff70e63594a90df5932b64630767841fe1beb257f8715459547d882341e8cd"), looks := true }, kinds := [], alts := [], laidByText := true, laidKinds := [.data, .data, .data, .sentinel, .sentinel], laidTests := true, laidLooks := .later }
def NumNumbersCardSaid : Prop := Claim7.holds Tryd.pinned (.plain (OpenSpec.ofChange numNumbersSpec)) numNumbersCard

/-- THE TIED CARD OF 'redlinelaw20.MergePicks'. -/
def mergePicksCard : Claim7 := { stood := { row := mergePicksRow, standIns := [], harness := (true, "d3ff70e63594a90df5932b64630767841fe1beb257f8715459547d882341e8cd"), looks := true }, kinds := [], alts := [], laidByText := true, laidKinds := [.data, .handle, .pinned], laidTests := true, laidLooks := .later }
def MergePicksCardSaid : Prop := Claim7.holds Tryd.pinned (.plain (OpenSpec.ofChange mergePicksSpec)) mergePicksCard

/-- THE TIED CARD OF 'redlinelaw01.NumBack'. -/
def numBackCard : Claim7 := { stood := { row := numBackRow, standIns := [], harness := (true, "d3ff70e63594a90df5932b64630767841fe1beb257f8715459547d882341e8cd"), looks := true }, kinds := [], alts := [], laidByText := true, laidKinds := [.data, .data, .data, .sentinel, .sentinel], laidTests := true, laidLooks := .later }
def NumBackCardSaid : Prop := Claim7.holds Tryd.pinned (.plain (OpenSpec.ofChange numBackSpec)) numBackCard

/-- THE TIED CARD OF 'redlinelaw01.NumList'. -/
def numListCard : Claim7 := { stood := { row := numListRow, standIns := [], harness := (true, "d3ff70e63594a90df5932b64630767841fe1beb257f8715459547d882341e8cd"), looks := true }, kinds := [], alts := [], laidByText := true, laidKinds := [.data, .data, .data, .data, .sentinel, .sentinel, .pinned], laidTests := true, laidLooks := .later }
def NumListCardSaid : Prop := Claim7.holds Tryd.pinned (.plain (OpenSpec.ofChange numListSpec)) numListCard

/-- THE SECOND FORM's CARD OF 'redlinelaw12.NormalPrints'. -/
def normalPrintsUptoCard : Claim7 := { stood := { row := normalPrintsUptoRow, standIns := [], harness := (true, "d3ff70e63594a90df5932b64630767841fe1beb257f8715459547d882341e8cd"), looks := true }, kinds := [], alts := [], laidByText := true, laidKinds := [.data, .data, .data], laidTests := true, laidLooks := .later }
def NormalPrintsUptoCardSaid : Prop := Claim7.holds Tryd.pinned (.plain (OpenSpec.upto normalPrintsSpec)) normalPrintsUptoCard

/-- THE SECOND FORM's CARD OF 'redlinelaw14.RcsfmtPrints'. -/
def rcsfmtPrintsUptoCard : Claim7 := { stood := { row := rcsfmtPrintsUptoRow, standIns := [], harness := (true, "d3ff70e63594a90df5932b64630767841fe1beb257f8715459547d882341e8cd"), looks := true }, kinds := [], alts := [], laidByText := true, laidKinds := [.data, .data, .data], laidTests := true, laidLooks := .later }
def RcsfmtPrintsUptoCardSaid : Prop := Claim7.holds Tryd.pinned (.plain (OpenSpec.upto rcsfmtPrintsSpec)) rcsfmtPrintsUptoCard

/-- THE SECOND FORM's CARD OF 'redlinelaw01.NumWords'. -/
def numWordsUptoCard : Claim7 := { stood := { row := numWordsUptoRow, standIns := [], harness := (true, "d3ff70e63594a90df5932b64630767841fe1beb257f8715459547d882341e8cd"), looks := true }, kinds := [], alts := [], laidByText := true, laidKinds := [.data, .pinned], laidTests := true, laidLooks := .later }
def NumWordsUptoCardSaid : Prop := Claim7.holds Tryd.pinned (.plain (OpenSpec.upto numWordsSpec)) numWordsUptoCard

/-- THE SECOND FORM's CARD OF 'redlinelaw13.EdfmtPrints'. -/
def edfmtPrintsUptoCard : Claim7 := { stood := { row := edfmtPrintsUptoRow, standIns := [], harness := (true, "d3ff70e63594a90df5932b64630767841fe1beb257f8715459547d882341e8cd"), looks := true }, kinds := [], alts := [], laidByText := true, laidKinds := [.data, .data, .data], laidTests := true, laidLooks := .later }
def EdfmtPrintsUptoCardSaid : Prop := Claim7.holds Tryd.pinned (.plain (OpenSpec.upto edfmtPrintsSpec)) edfmtPrintsUptoCard

/-- THE SECOND FORM's CARD OF 'redlinelaw16.UnifiedPrints'. -/
def unifiedPrintsUptoCard : Claim7 := { stood := { row := unifiedPrintsUptoRow, standIns := [], harness := (true, "d3ff70e63594a90df5932b64630767841fe1beb257f8715459547d882341e8cd"), looks := true }, kinds := [], alts := [], laidByText := true, laidKinds := [.data, .data, .data], laidTests := true, laidLooks := .later }
def UnifiedPrintsUptoCardSaid : Prop := Claim7.holds Tryd.pinned (.plain (OpenSpec.upto unifiedPrintsSpec)) unifiedPrintsUptoCard

/-- THE SECOND FORM's CARD OF 'redlinelaw15.CtxfmtPrints'. -/
def ctxfmtPrintsUptoCard : Claim7 := { stood := { row := ctxfmtPrintsUptoRow, standIns := [], harness := (true, "d3ff70e63594a90df5932b64630767841fe1beb257f8715459547d882341e8cd"), looks := true }, kinds := [], alts := [], laidByText := true, laidKinds := [.data, .data, .data], laidTests := true, laidLooks := .later }
def CtxfmtPrintsUptoCardSaid : Prop := Claim7.holds Tryd.pinned (.plain (OpenSpec.upto ctxfmtPrintsSpec)) ctxfmtPrintsUptoCard

/-- THE SECOND FORM's CARD OF 'redlinelaw01.NumNumbers'. -/
def numNumbersUptoCard : Claim7 := { stood := { row := numNumbersUptoRow, standIns := [], harness := (true, "d3ff70e63594a90df5932b64630767841fe1beb257f8715459547d882341e8cd"), looks := true }, kinds := [], alts := [], laidByText := true, laidKinds := [.data, .data, .data, .sentinel, .sentinel], laidTests := true, laidLooks := .later }
def NumNumbersUptoCardSaid : Prop := Claim7.holds Tryd.pinned (.plain (OpenSpec.upto numNumbersSpec)) numNumbersUptoCard

/-- THE SECOND FORM's CARD OF 'redlinelaw20.MergePicks'. -/
def mergePicksUptoCard : Claim7 := { stood := { row := mergePicksUptoRow, standIns := [], harness := (true, "d3ff70e63594a90df5932b64630767841fe1beb257f8715459547d882341e8cd"), looks := true }, kinds := [], alts := [], laidByText := true, laidKinds := [.data, .handle, .pinned], laidTests := true, laidLooks := .later }
def MergePicksUptoCardSaid : Prop := Claim7.holds Tryd.pinned (.plain (OpenSpec.upto mergePicksSpec)) mergePicksUptoCard

/-- THE SECOND FORM's CARD OF 'redlinelaw01.NumBack'. -/
def numBackUptoCard : Claim7 := { stood := { row := numBackUptoRow, standIns := [], harness := (true, "d3ff70e63594a90df5932b64630767841fe1beb257f8715459547d882341e8cd"), looks := true }, kinds := [], alts := [], laidByText := true, laidKinds := [.data, .data, .data, .sentinel, .sentinel], laidTests := true, laidLooks := .later }
def NumBackUptoCardSaid : Prop := Claim7.holds Tryd.pinned (.plain (OpenSpec.upto numBackSpec)) numBackUptoCard

/-- THE SECOND FORM's CARD OF 'redlinelaw01.NumList'. -/
def numListUptoCard : Claim7 := { stood := { row := numListUptoRow, standIns := [], harness := (true, "d3ff70e63594a90df5932b64630767841fe1beb257f8715459547d882341e8cd"), looks := true }, kinds := [], alts := [], laidByText := true, laidKinds := [.data, .data, .data, .data, .sentinel, .sentinel, .pinned], laidTests := true, laidLooks := .later }
def NumListUptoCardSaid : Prop := Claim7.holds Tryd.pinned (.plain (OpenSpec.upto numListSpec)) numListUptoCard
end Rows
end Go.Proofs.YtpbkdcfjlbdgfaaDoor
