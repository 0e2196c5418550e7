/-
  DERIVED. GIVEN WITH THE SEED: THE CARDS: each row of YtlghobefhmpfkaaDoorRows.lean that lists a variable, with what it lists TIED to the program's text (the seventh form; the later family's looks); each row that meets fmt, with fmt's text TOLD by the authors' own Lean function (tested against real Go, not proved from fmt's source: count such statements apart). THE CARD IS WHAT COUNTS. Prove the row's statement (the work); the ties are given (YtlghobefhmpfkaaDoorTie.lean); close each card by the builder's one call (the guide's Derived/Test/ToyasCard.lean, 'card_holds'). Laid BY PROGRAM, IN A SANDBOX (cutbox-door.mjs). By AI agents, Wed Nov 11 2026. No macro, syntax, notation, axiom, sorry.
-/
import Derived.Test.YtlghobefhmpfkaaDoorRows
import GoSem.ClaimSeven
namespace Go.Proofs.YtlghobefhmpfkaaDoor
namespace Rows

/-- THE TIED CARD OF 'redlinelaw14.RcsfmtNothing'. -/
def rcsfmtNothingCard : Claim7 := { stood := { row := rcsfmtNothingRow, standIns := [], harness := (true, "9c457c0beae483313c5e7b28d11750b7f472553fcd5b24b23aa3e2623e38c9a2"), looks := true }, kinds := [], alts := [], laidByText := true, laidKinds := [.data, .data, .data, .data, .sentinel, .sentinel, .pinned], laidTests := true, laidLooks := .later }
def RcsfmtNothingCardSaid : Prop := Claim7.holds Tryd.pinned (.plain (OpenSpec.ofChange rcsfmtNothingSpec)) rcsfmtNothingCard

/-- THE SECOND FORM's CARD OF 'redlinelaw14.RcsfmtNothing'. -/
def rcsfmtNothingUptoCard : Claim7 := { stood := { row := rcsfmtNothingUptoRow, standIns := [], harness := (true, "9c457c0beae483313c5e7b28d11750b7f472553fcd5b24b23aa3e2623e38c9a2"), looks := true }, kinds := [], alts := [], laidByText := true, laidKinds := [.data, .data, .data, .data, .sentinel, .sentinel, .pinned], laidTests := true, laidLooks := .later }
def RcsfmtNothingUptoCardSaid : Prop := Claim7.holds Tryd.pinned (.plain (OpenSpec.upto rcsfmtNothingSpec)) rcsfmtNothingUptoCard
end Rows
end Go.Proofs.YtlghobefhmpfkaaDoor
