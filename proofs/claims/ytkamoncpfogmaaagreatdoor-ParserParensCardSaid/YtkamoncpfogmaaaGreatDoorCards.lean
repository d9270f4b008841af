/-
  DERIVED. GIVEN WITH THE SEED: THE CARDS: each row of YtkamoncpfogmaaaGreatDoorRows.lean that lists a variable, with what it lists TIED to the program's text (the seventh form; the later family's looks); each row that meets fmt, with fmt's text TOLD by the authors' own Lean function (tested against real Go, not proved from fmt's source: count such statements apart). THE CARD IS WHAT COUNTS. Prove the row's statement (the work); the ties are given (YtkamoncpfogmaaaGreatDoorTie.lean); close each card by the builder's one call (the guide's Derived/Test/ToyasCard.lean, 'card_holds'). Laid BY PROGRAM, IN A SANDBOX (cutbox-door.mjs). By AI agents, Wed Nov 11 2026. No macro, syntax, notation, axiom, sorry.
-/
import Derived.Test.YtkamoncpfogmaaaGreatDoorRows
import GoSem.ClaimSeven
namespace Go.Proofs.YtkamoncpfogmaaaGreatDoor
namespace Rows

/-- THE TIED CARD OF 'heartwoodlaw10.ParserDescs'. -/
def parserDescsCard : Claim7 := { stood := { row := parserDescsRow, standIns := [], harness := (true, "3b03a94e15dea8f5d028021171d2b008e51910e3b12c459a361d2a486e0b451e"), looks := true }, kinds := [], alts := [], laidByText := true, laidKinds := [.data, .data, .data, .sentinel, .sentinel, .listed, .data], laidTests := true, laidLooks := .later }
def ParserDescsCardSaid : Prop := Claim7.holds Tryz.pinned (.plain (OpenSpec.ofChange parserDescsSpec)) parserDescsCard

/-- THE TIED CARD OF 'heartwoodlaw10.ParserExprs'. -/
def parserExprsCard : Claim7 := { stood := { row := parserExprsRow, standIns := [], harness := (true, "3b03a94e15dea8f5d028021171d2b008e51910e3b12c459a361d2a486e0b451e"), looks := true }, kinds := [], alts := [], laidByText := true, laidKinds := [.data, .data, .data, .sentinel, .sentinel, .listed, .data], laidTests := true, laidLooks := .later }
def ParserExprsCardSaid : Prop := Claim7.holds Tryz.pinned (.plain (OpenSpec.ofChange parserExprsSpec)) parserExprsCard

/-- THE TIED CARD OF 'heartwoodlaw10.ParserParens'. -/
def parserParensCard : Claim7 := { stood := { row := parserParensRow, standIns := [], harness := (true, "3b03a94e15dea8f5d028021171d2b008e51910e3b12c459a361d2a486e0b451e"), looks := true }, kinds := [], alts := [], laidByText := true, laidKinds := [.data, .data, .data, .sentinel, .sentinel, .listed, .data], laidTests := true, laidLooks := .later }
def ParserParensCardSaid : Prop := Claim7.holds Tryz.pinned (.plain (OpenSpec.ofChange parserParensSpec)) parserParensCard

/-- THE TIED CARD OF 'heartwoodlaw10.ParserStops'. -/
def parserStopsCard : Claim7 := { stood := { row := parserStopsRow, standIns := [], harness := (true, "3b03a94e15dea8f5d028021171d2b008e51910e3b12c459a361d2a486e0b451e"), looks := true }, kinds := [], alts := [], laidByText := true, laidKinds := [.data, .data, .data, .sentinel, .sentinel, .listed, .data], laidTests := true, laidLooks := .later }
def ParserStopsCardSaid : Prop := Claim7.holds Tryz.pinned (.plain (OpenSpec.ofChange parserStopsSpec)) parserStopsCard

/-- THE SECOND FORM's CARD OF 'heartwoodlaw10.ParserDescs'. -/
def parserDescsUptoCard : Claim7 := { stood := { row := parserDescsUptoRow, standIns := [], harness := (true, "3b03a94e15dea8f5d028021171d2b008e51910e3b12c459a361d2a486e0b451e"), looks := true }, kinds := [], alts := [], laidByText := true, laidKinds := [.data, .data, .data, .sentinel, .sentinel, .listed, .data], laidTests := true, laidLooks := .later }
def ParserDescsUptoCardSaid : Prop := Claim7.holds Tryz.pinned (.plain (OpenSpec.upto parserDescsSpec)) parserDescsUptoCard

/-- THE SECOND FORM's CARD OF 'heartwoodlaw10.ParserExprs'. -/
def parserExprsUptoCard : Claim7 := { stood := { row := parserExprsUptoRow, standIns := [], harness := (true, "3b03a94e15dea8f5d028021171d2b008e51910e3b12c459a361d2a486e0b451e"), looks := true }, kinds := [], alts := [], laidByText := true, laidKinds := [.data, .data, .data, .sentinel, .sentinel, .listed, .data], laidTests := true, laidLooks := .later }
def ParserExprsUptoCardSaid : Prop := Claim7.holds Tryz.pinned (.plain (OpenSpec.upto parserExprsSpec)) parserExprsUptoCard

/-- THE SECOND FORM's CARD OF 'heartwoodlaw10.ParserParens'. -/
def parserParensUptoCard : Claim7 := { stood := { row := parserParensUptoRow, standIns := [], harness := (true, "3b03a94e15dea8f5d028021171d2b008e51910e3b12c459a361d2a486e0b451e"), looks := true }, kinds := [], alts := [], laidByText := true, laidKinds := [.data, .data, .data, .sentinel, .sentinel, .listed, .data], laidTests := true, laidLooks := .later }
def ParserParensUptoCardSaid : Prop := Claim7.holds Tryz.pinned (.plain (OpenSpec.upto parserParensSpec)) parserParensUptoCard

/-- THE SECOND FORM's CARD OF 'heartwoodlaw10.ParserStops'. -/
def parserStopsUptoCard : Claim7 := { stood := { row := parserStopsUptoRow, standIns := [], harness := (true, "3b03a94e15dea8f5d028021171d2b008e51910e3b12c459a361d2a486e0b451e"), looks := true }, kinds := [], alts := [], laidByText := true, laidKinds := [.data, .data, .data, .sentinel, .sentinel, .listed, .data], laidTests := true, laidLooks := .later }
def ParserStopsUptoCardSaid : Prop := Claim7.holds Tryz.pinned (.plain (OpenSpec.upto parserStopsSpec)) parserStopsUptoCard
end Rows
end Go.Proofs.YtkamoncpfogmaaaGreatDoor
