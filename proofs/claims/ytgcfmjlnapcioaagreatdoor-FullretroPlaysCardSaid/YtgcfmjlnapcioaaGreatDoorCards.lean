/-
  DERIVED. GIVEN WITH THE SEED: THE CARDS: each row of YtgcfmjlnapcioaaGreatDoorRows.lean that lists a variable, with what it lists TIED to the program's text (the seventh form; the later family's looks); each row that meets fmt, with fmt's text TOLD by the authors' own Lean function (tested against real Go, not proved from fmt's source: count such statements apart). THE CARD IS WHAT COUNTS. Prove the row's statement (the work); the ties are given (YtgcfmjlnapcioaaGreatDoorTie.lean); close each card by the builder's one call (the guide's Derived/Test/ToyasCard.lean, 'card_holds'). Laid BY PROGRAM, IN A SANDBOX (cutbox-door.mjs). By AI agents, Wed Nov 11 2026. No macro, syntax, notation, axiom, sorry.
-/
import Derived.Test.YtgcfmjlnapcioaaGreatDoorRows
import GoSem.ClaimSeven
namespace Go.Proofs.YtgcfmjlnapcioaaGreatDoor
namespace Rows

/-- THE TIED CARD OF 'heartwoodlaw39.FullretroPlays'. -/
def fullretroPlaysCard : Claim7 := { stood := { row := fullretroPlaysRow, standIns := [], harness := (true, "8fa9968ba6f05307e5349dc7c8f73fec19296793cba51b8320e2f53ee0576a69"), looks := true }, kinds := [], alts := [], laidByText := true, laidKinds := [.data, .data, .data, .sentinel, .sentinel, .listed, .data], laidTests := true, laidLooks := .later }
def FullretroPlaysCardSaid : Prop := Claim7.holds Tryz.pinned (.plain (OpenSpec.ofChange fullretroPlaysSpec)) fullretroPlaysCard

/-- THE TIED CARD OF 'heartwoodlaw39.FullretroLong'. -/
def fullretroLongCard : Claim7 := { stood := { row := fullretroLongRow, standIns := [], harness := (true, "8fa9968ba6f05307e5349dc7c8f73fec19296793cba51b8320e2f53ee0576a69"), looks := true }, kinds := [], alts := [], laidByText := true, laidKinds := [.data, .data, .data, .sentinel, .sentinel, .listed, .data], laidTests := true, laidLooks := .later }
def FullretroLongCardSaid : Prop := Claim7.holds Tryz.pinned (.plain (OpenSpec.ofChange fullretroLongSpec)) fullretroLongCard

/-- THE TIED CARD OF 'heartwoodlaw39.FullretroBack'. -/
def fullretroBackCard : Claim7 := { stood := { row := fullretroBackRow, standIns := [], harness := (true, "8fa9968ba6f05307e5349dc7c8f73fec19296793cba51b8320e2f53ee0576a69"), looks := true }, kinds := [], alts := [], laidByText := true, laidKinds := [.data, .data, .data, .sentinel, .sentinel, .listed, .data], laidTests := true, laidLooks := .later }
def FullretroBackCardSaid : Prop := Claim7.holds Tryz.pinned (.plain (OpenSpec.ofChange fullretroBackSpec)) fullretroBackCard

/-- THE TIED CARD OF 'heartwoodlaw39.FullretroCosts'. -/
def fullretroCostsCard : Claim7 := { stood := { row := fullretroCostsRow, standIns := [], harness := (true, "8fa9968ba6f05307e5349dc7c8f73fec19296793cba51b8320e2f53ee0576a69"), looks := true }, kinds := [], alts := [], laidByText := true, laidKinds := [.data, .data, .data, .sentinel, .sentinel, .listed, .data], laidTests := true, laidLooks := .later }
def FullretroCostsCardSaid : Prop := Claim7.holds Tryz.pinned (.plain (OpenSpec.ofChange fullretroCostsSpec)) fullretroCostsCard

/-- THE TIED CARD OF 'heartwoodlaw39.FullretroAlike'. -/
def fullretroAlikeCard : Claim7 := { stood := { row := fullretroAlikeRow, standIns := [], harness := (true, "8fa9968ba6f05307e5349dc7c8f73fec19296793cba51b8320e2f53ee0576a69"), looks := true }, kinds := [], alts := [], laidByText := true, laidKinds := [.data, .data, .data, .sentinel, .sentinel, .listed, .data], laidTests := true, laidLooks := .later }
def FullretroAlikeCardSaid : Prop := Claim7.holds Tryz.pinned (.plain (OpenSpec.ofChange fullretroAlikeSpec)) fullretroAlikeCard

/-- THE TIED CARD OF 'heartwoodlaw39.FullretroPast'. -/
def fullretroPastCard : Claim7 := { stood := { row := fullretroPastRow, standIns := [], harness := (true, "8fa9968ba6f05307e5349dc7c8f73fec19296793cba51b8320e2f53ee0576a69"), looks := true }, kinds := [], alts := [], laidByText := true, laidKinds := [.data, .data, .data, .sentinel, .sentinel, .listed, .data], laidTests := true, laidLooks := .later }
def FullretroPastCardSaid : Prop := Claim7.holds Tryz.pinned (.plain (OpenSpec.ofChange fullretroPastSpec)) fullretroPastCard

/-- THE TIED CARD OF 'heartwoodlaw39.FullretroNil'. -/
def fullretroNilCard : Claim7 := { stood := { row := fullretroNilRow, standIns := [], harness := (true, "8fa9968ba6f05307e5349dc7c8f73fec19296793cba51b8320e2f53ee0576a69"), looks := true }, kinds := [], alts := [], laidByText := true, laidKinds := [.data, .data, .data, .sentinel, .sentinel, .listed, .data], laidTests := true, laidLooks := .later }
def FullretroNilCardSaid : Prop := Claim7.holds Tryz.pinned (.plain (OpenSpec.ofChange fullretroNilSpec)) fullretroNilCard

/-- THE SECOND FORM's CARD OF 'heartwoodlaw39.FullretroPlays'. -/
def fullretroPlaysUptoCard : Claim7 := { stood := { row := fullretroPlaysUptoRow, standIns := [], harness := (true, "8fa9968ba6f05307e5349dc7c8f73fec19296793cba51b8320e2f53ee0576a69"), looks := true }, kinds := [], alts := [], laidByText := true, laidKinds := [.data, .data, .data, .sentinel, .sentinel, .listed, .data], laidTests := true, laidLooks := .later }
def FullretroPlaysUptoCardSaid : Prop := Claim7.holds Tryz.pinned (.plain (OpenSpec.upto fullretroPlaysSpec)) fullretroPlaysUptoCard

/-- THE SECOND FORM's CARD OF 'heartwoodlaw39.FullretroLong'. -/
def fullretroLongUptoCard : Claim7 := { stood := { row := fullretroLongUptoRow, standIns := [], harness := (true, "8fa9968ba6f05307e5349dc7c8f73fec19296793cba51b8320e2f53ee0576a69"), looks := true }, kinds := [], alts := [], laidByText := true, laidKinds := [.data, .data, .data, .sentinel, .sentinel, .listed, .data], laidTests := true, laidLooks := .later }
def FullretroLongUptoCardSaid : Prop := Claim7.holds Tryz.pinned (.plain (OpenSpec.upto fullretroLongSpec)) fullretroLongUptoCard

/-- THE SECOND FORM's CARD OF 'heartwoodlaw39.FullretroBack'. -/
def fullretroBackUptoCard : Claim7 := { stood := { row := fullretroBackUptoRow, standIns := [], harness := (true, "8fa9968ba6f05307e5349dc7c8f73fec19296793cba51b8320e2f53ee0576a69"), looks := true }, kinds := [], alts := [], laidByText := true, laidKinds := [.data, .data, .data, .sentinel, .sentinel, .listed, .data], laidTests := true, laidLooks := .later }
def FullretroBackUptoCardSaid : Prop := Claim7.holds Tryz.pinned (.plain (OpenSpec.upto fullretroBackSpec)) fullretroBackUptoCard

/-- THE SECOND FORM's CARD OF 'heartwoodlaw39.FullretroCosts'. -/
def fullretroCostsUptoCard : Claim7 := { stood := { row := fullretroCostsUptoRow, standIns := [], harness := (true, "8fa9968ba6f05307e5349dc7c8f73fec19296793cba51b8320e2f53ee0576a69"), looks := true }, kinds := [], alts := [], laidByText := true, laidKinds := [.data, .data, .data, .sentinel, .sentinel, .listed, .data], laidTests := true, laidLooks := .later }
def FullretroCostsUptoCardSaid : Prop := Claim7.holds Tryz.pinned (.plain (OpenSpec.upto fullretroCostsSpec)) fullretroCostsUptoCard

/-- THE SECOND FORM's CARD OF 'heartwoodlaw39.FullretroAlike'. -/
def fullretroAlikeUptoCard : Claim7 := { stood := { row := fullretroAlikeUptoRow, standIns := [], harness := (true, "8fa9968ba6f05307e5349dc7c8f73fec19296793cba51b8320e2f53ee0576a69"), looks := true }, kinds := [], alts := [], laidByText := true, laidKinds := [.data, .data, .data, .sentinel, .sentinel, .listed, .data], laidTests := true, laidLooks := .later }
def FullretroAlikeUptoCardSaid : Prop := Claim7.holds Tryz.pinned (.plain (OpenSpec.upto fullretroAlikeSpec)) fullretroAlikeUptoCard

/-- THE SECOND FORM's CARD OF 'heartwoodlaw39.FullretroPast'. -/
def fullretroPastUptoCard : Claim7 := { stood := { row := fullretroPastUptoRow, standIns := [], harness := (true, "8fa9968ba6f05307e5349dc7c8f73fec19296793cba51b8320e2f53ee0576a69"), looks := true }, kinds := [], alts := [], laidByText := true, laidKinds := [.data, .data, .data, .sentinel, .sentinel, .listed, .data], laidTests := true, laidLooks := .later }
def FullretroPastUptoCardSaid : Prop := Claim7.holds Tryz.pinned (.plain (OpenSpec.upto fullretroPastSpec)) fullretroPastUptoCard

/-- THE SECOND FORM's CARD OF 'heartwoodlaw39.FullretroNil'. -/
def fullretroNilUptoCard : Claim7 := { stood := { row := fullretroNilUptoRow, standIns := [], harness := (true, "8fa9968ba6f05307e5349dc7c8f73fec19296793cba51b8320e2f53ee0576a69"), looks := true }, kinds := [], alts := [], laidByText := true, laidKinds := [.data, .data, .data, .sentinel, .sentinel, .listed, .data], laidTests := true, laidLooks := .later }
def FullretroNilUptoCardSaid : Prop := Claim7.holds Tryz.pinned (.plain (OpenSpec.upto fullretroNilSpec)) fullretroNilUptoCard
end Rows
end Go.Proofs.YtgcfmjlnapcioaaGreatDoor
