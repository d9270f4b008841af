/-
  DERIVED. GIVEN WITH THE SEED: THE CARDS: each row of YtnijeifpjjeccaaGreatDoorRows.lean that lists a variable, with what it lists TIED to the program's text (the seventh form; the later family's looks); each row that meets fmt, with fmt's text TOLD by the authors' own Lean function (tested against real Go, not proved from fmt's source: count such statements apart). THE CARD IS WHAT COUNTS. Prove the row's statement (the work); the ties are given (YtnijeifpjjeccaaGreatDoorTie.lean); close each card by the builder's one call (the guide's Derived/Test/ToyasCard.lean, 'card_holds'). Laid BY PROGRAM, IN A SANDBOX (cutbox-door.mjs). By AI agents, Wed Nov 11 2026. No macro, syntax, notation, axiom, sorry.
-/
import Derived.Test.YtnijeifpjjeccaaGreatDoorRows
import GoSem.ClaimSeven
namespace Go.Proofs.YtnijeifpjjeccaaGreatDoor
namespace Rows

/-- THE TIED CARD OF 'heartwoodlaw03.ModelTexts'. -/
def modelTextsCard : Claim7 := { stood := { row := modelTextsRow, standIns := [], harness := (true, "63665412d54a72a3c3aa22d46819f5afe0ff7d8d2347155b50effaa71bef3d00"), looks := true }, kinds := [], alts := [], laidByText := true, laidKinds := [.data, .data, .data, .data, .sentinel, .sentinel, .pinned], laidTests := true, laidLooks := .later }
def ModelTextsCardSaid : Prop := Claim7.holds Tryz.pinned (.plain (OpenSpec.ofChange modelTextsSpec)) modelTextsCard

/-- THE TIED CARD OF 'heartwoodlaw03.ModelBack'. -/
def modelBackCard : Claim7 := { stood := { row := modelBackRow, standIns := [], harness := (true, "63665412d54a72a3c3aa22d46819f5afe0ff7d8d2347155b50effaa71bef3d00"), looks := true }, kinds := [], alts := [], laidByText := true, laidKinds := [.data, .data, .data, .data, .sentinel, .sentinel, .pinned], laidTests := true, laidLooks := .later }
def ModelBackCardSaid : Prop := Claim7.holds Tryz.pinned (.plain (OpenSpec.ofChange modelBackSpec)) modelBackCard

/-- THE SECOND FORM's CARD OF 'heartwoodlaw03.ModelTexts'. -/
def modelTextsUptoCard : Claim7 := { stood := { row := modelTextsUptoRow, standIns := [], harness := (true, "63665412d54a72a3c3aa22d46819f5afe0ff7d8d2347155b50effaa71bef3d00"), looks := true }, kinds := [], alts := [], laidByText := true, laidKinds := [.data, .data, .data, .data, .sentinel, .sentinel, .pinned], laidTests := true, laidLooks := .later }
def ModelTextsUptoCardSaid : Prop := Claim7.holds Tryz.pinned (.plain (OpenSpec.upto modelTextsSpec)) modelTextsUptoCard

/-- THE SECOND FORM's CARD OF 'heartwoodlaw03.ModelBack'. -/
def modelBackUptoCard : Claim7 := { stood := { row := modelBackUptoRow, standIns := [], harness := (true, "63665412d54a72a3c3aa22d46819f5afe0ff7d8d2347155b50effaa71bef3d00"), looks := true }, kinds := [], alts := [], laidByText := true, laidKinds := [.data, .data, .data, .data, .sentinel, .sentinel, .pinned], laidTests := true, laidLooks := .later }
def ModelBackUptoCardSaid : Prop := Claim7.holds Tryz.pinned (.plain (OpenSpec.upto modelBackSpec)) modelBackUptoCard
end Rows
end Go.Proofs.YtnijeifpjjeccaaGreatDoor
