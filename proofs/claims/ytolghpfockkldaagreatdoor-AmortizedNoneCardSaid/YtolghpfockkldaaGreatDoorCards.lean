/-
  DERIVED. GIVEN WITH THE SEED: THE CARDS: each row of YtolghpfockkldaaGreatDoorRows.lean that lists a variable, with what it lists TIED to the program's text (the seventh form; the later family's looks); each row that meets fmt, with fmt's text TOLD by the authors' own Lean function (tested against real Go, not proved from fmt's source: count such statements apart). THE CARD IS WHAT COUNTS. Prove the row's statement (the work); the ties are given (YtolghpfockkldaaGreatDoorTie.lean); close each card by the builder's one call (the guide's Derived/Test/ToyasCard.lean, 'card_holds'). Laid BY PROGRAM, IN A SANDBOX (cutbox-door.mjs). By AI agents, Wed Nov 11 2026. No macro, syntax, notation, axiom, sorry.
-/
import Derived.Test.YtolghpfockkldaaGreatDoorRows
import GoSem.ClaimSeven
namespace Go.Proofs.YtolghpfockkldaaGreatDoor
namespace Rows

/-- THE TIED CARD OF 'heartwoodlaw23.AmortizedSteps'. -/
def amortizedStepsCard : Claim7 := { stood := { row := amortizedStepsRow, standIns := [], harness := (true, "a80cc2d10b8a8adad3bce3b287fa630e4147685db7e9985178b772822b885892"), looks := true }, kinds := [], alts := [], laidByText := true, laidKinds := [.data, .data, .data, .sentinel, .sentinel, .listed, .data], laidTests := true, laidLooks := .later }
def AmortizedStepsCardSaid : Prop := Claim7.holds Tryz.pinned (.plain (OpenSpec.ofChange amortizedStepsSpec)) amortizedStepsCard

/-- THE TIED CARD OF 'heartwoodlaw23.AmortizedTotals'. -/
def amortizedTotalsCard : Claim7 := { stood := { row := amortizedTotalsRow, standIns := [], harness := (true, "a80cc2d10b8a8adad3bce3b287fa630e4147685db7e9985178b772822b885892"), looks := true }, kinds := [], alts := [], laidByText := true, laidKinds := [.data, .data, .data, .sentinel, .sentinel, .listed, .data], laidTests := true, laidLooks := .later }
def AmortizedTotalsCardSaid : Prop := Claim7.holds Tryz.pinned (.plain (OpenSpec.ofChange amortizedTotalsSpec)) amortizedTotalsCard

/-- THE TIED CARD OF 'heartwoodlaw23.AmortizedNone'. -/
def amortizedNoneCard : Claim7 := { stood := { row := amortizedNoneRow, standIns := [], harness := (true, "a80cc2d10b8a8adad3bce3b287fa630e4147685db7e9985178b772822b885892"), looks := true }, kinds := [], alts := [], laidByText := true, laidKinds := [.data, .data, .data, .sentinel, .sentinel, .listed, .data], laidTests := true, laidLooks := .later }
def AmortizedNoneCardSaid : Prop := Claim7.holds Tryz.pinned (.plain (OpenSpec.ofChange amortizedNoneSpec)) amortizedNoneCard

/-- THE SECOND FORM's CARD OF 'heartwoodlaw23.AmortizedSteps'. -/
def amortizedStepsUptoCard : Claim7 := { stood := { row := amortizedStepsUptoRow, standIns := [], harness := (true, "a80cc2d10b8a8adad3bce3b287fa630e4147685db7e9985178b772822b885892"), looks := true }, kinds := [], alts := [], laidByText := true, laidKinds := [.data, .data, .data, .sentinel, .sentinel, .listed, .data], laidTests := true, laidLooks := .later }
def AmortizedStepsUptoCardSaid : Prop := Claim7.holds Tryz.pinned (.plain (OpenSpec.upto amortizedStepsSpec)) amortizedStepsUptoCard

/-- THE SECOND FORM's CARD OF 'heartwoodlaw23.AmortizedTotals'. -/
def amortizedTotalsUptoCard : Claim7 := { stood := { row := amortizedTotalsUptoRow, standIns := [], harness := (true, "a80cc2d10b8a8adad3bce3b287fa630e4147685db7e9985178b772822b885892"), looks := true }, kinds := [], alts := [], laidByText := true, laidKinds := [.data, .data, .data, .sentinel, .sentinel, .listed, .data], laidTests := true, laidLooks := .later }
def AmortizedTotalsUptoCardSaid : Prop := Claim7.holds Tryz.pinned (.plain (OpenSpec.upto amortizedTotalsSpec)) amortizedTotalsUptoCard

/-- THE SECOND FORM's CARD OF 'heartwoodlaw23.AmortizedNone'. -/
def amortizedNoneUptoCard : Claim7 := { stood := { row := amortizedNoneUptoRow, standIns := [], harness := (true, "a80cc2d10b8a8adad3bce3b287fa630e4147685db7e9985178b772822b885892"), looks := true }, kinds := [], alts := [], laidByText := true, laidKinds := [.data, .data, .data, .sentinel, .sentinel, .listed, .data], laidTests := true, laidLooks := .later }
def AmortizedNoneUptoCardSaid : Prop := Claim7.holds Tryz.pinned (.plain (OpenSpec.upto amortizedNoneSpec)) amortizedNoneUptoCard
end Rows
end Go.Proofs.YtolghpfockkldaaGreatDoor
