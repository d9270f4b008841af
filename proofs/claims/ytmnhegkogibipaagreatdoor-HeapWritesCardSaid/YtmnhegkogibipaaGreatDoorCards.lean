/-
  DERIVED. GIVEN WITH THE SEED: THE CARDS: each row of YtmnhegkogibipaaGreatDoorRows.lean that lists a variable, with what it lists TIED to the program's text (the seventh form; the later family's looks); each row that meets fmt, with fmt's text TOLD by the authors' own Lean function (tested against real Go, not proved from fmt's source: count such statements apart). THE CARD IS WHAT COUNTS. Prove the row's statement (the work); the ties are given (YtmnhegkogibipaaGreatDoorTie.lean); close each card by the builder's one call (the guide's Derived/Test/ToyasCard.lean, 'card_holds'). Laid BY PROGRAM, IN A SANDBOX (cutbox-door.mjs). By AI agents, Wed Nov 11 2026. No macro, syntax, notation, axiom, sorry.
-/
import Derived.Test.YtmnhegkogibipaaGreatDoorRows
import GoSem.ClaimSeven
namespace Go.Proofs.YtmnhegkogibipaaGreatDoor
namespace Rows

/-- THE TIED CARD OF 'heartwoodlaw12.HeapForms'. -/
def heapFormsCard : Claim7 := { stood := { row := heapFormsRow, standIns := [], harness := (true, "7439f9dfa9b91c7a5d400fd7a1f6b0f172f8a9675cb6e38ffb91c215a879b887"), looks := false }, kinds := [], alts := [], laidByText := true, laidKinds := [.listed, .data], laidTests := true, laidLooks := .later }
def HeapFormsCardSaid : Prop := Claim7.holds Tryz.pinned (.plain (OpenSpec.ofChange heapFormsSpec)) heapFormsCard

/-- THE TIED CARD OF 'heartwoodlaw12.HeapReaches'. -/
def heapReachesCard : Claim7 := { stood := { row := heapReachesRow, standIns := [], harness := (true, "7439f9dfa9b91c7a5d400fd7a1f6b0f172f8a9675cb6e38ffb91c215a879b887"), looks := false }, kinds := [], alts := [], laidByText := true, laidKinds := [.listed, .data], laidTests := true, laidLooks := .later }
def HeapReachesCardSaid : Prop := Claim7.holds Tryz.pinned (.plain (OpenSpec.ofChange heapReachesSpec)) heapReachesCard

/-- THE TIED CARD OF 'heartwoodlaw12.HeapTrees'. -/
def heapTreesCard : Claim7 := { stood := { row := heapTreesRow, standIns := [], harness := (true, "7439f9dfa9b91c7a5d400fd7a1f6b0f172f8a9675cb6e38ffb91c215a879b887"), looks := false }, kinds := [], alts := [], laidByText := true, laidKinds := [.listed, .data], laidTests := true, laidLooks := .later }
def HeapTreesCardSaid : Prop := Claim7.holds Tryz.pinned (.plain (OpenSpec.ofChange heapTreesSpec)) heapTreesCard

/-- THE TIED CARD OF 'heartwoodlaw12.HeapWrites'. -/
def heapWritesCard : Claim7 := { stood := { row := heapWritesRow, standIns := [], harness := (true, "7439f9dfa9b91c7a5d400fd7a1f6b0f172f8a9675cb6e38ffb91c215a879b887"), looks := false }, kinds := [], alts := [], laidByText := true, laidKinds := [.listed, .data], laidTests := true, laidLooks := .later }
def HeapWritesCardSaid : Prop := Claim7.holds Tryz.pinned (.plain (OpenSpec.ofChange heapWritesSpec)) heapWritesCard

/-- THE TIED CARD OF 'heartwoodlaw12.HeapAccess'. -/
def heapAccessCard : Claim7 := { stood := { row := heapAccessRow, standIns := [], harness := (true, "7439f9dfa9b91c7a5d400fd7a1f6b0f172f8a9675cb6e38ffb91c215a879b887"), looks := false }, kinds := [], alts := [], laidByText := true, laidKinds := [.listed, .data], laidTests := true, laidLooks := .later }
def HeapAccessCardSaid : Prop := Claim7.holds Tryz.pinned (.plain (OpenSpec.ofChange heapAccessSpec)) heapAccessCard

/-- THE TIED CARD OF 'heartwoodlaw12.HeapCanonical'. -/
def heapCanonicalCard : Claim7 := { stood := { row := heapCanonicalRow, standIns := [], harness := (true, "7439f9dfa9b91c7a5d400fd7a1f6b0f172f8a9675cb6e38ffb91c215a879b887"), looks := false }, kinds := [], alts := [], laidByText := true, laidKinds := [.listed, .data], laidTests := true, laidLooks := .later }
def HeapCanonicalCardSaid : Prop := Claim7.holds Tryz.pinned (.plain (OpenSpec.ofChange heapCanonicalSpec)) heapCanonicalCard

/-- THE TIED CARD OF 'heartwoodlaw12.HeapTexts'. -/
def heapTextsCard : Claim7 := { stood := { row := heapTextsRow, standIns := [], harness := (true, "7439f9dfa9b91c7a5d400fd7a1f6b0f172f8a9675cb6e38ffb91c215a879b887"), looks := false }, kinds := [], alts := [], laidByText := true, laidKinds := [.data, .data, .data, .listed, .data], laidTests := true, laidLooks := .later }
def HeapTextsCardSaid : Prop := Claim7.holds Tryz.pinned (.plain (OpenSpec.ofChange heapTextsSpec)) heapTextsCard

/-- THE TIED CARD OF 'heartwoodlaw09.AstTexts'. -/
def astTextsCard : Claim7 := { stood := { row := astTextsRow, standIns := [], harness := (true, "7439f9dfa9b91c7a5d400fd7a1f6b0f172f8a9675cb6e38ffb91c215a879b887"), looks := false }, kinds := [], alts := [], laidByText := true, laidKinds := [.data, .data, .data, .listed, .data], laidTests := true, laidLooks := .later }
def AstTextsCardSaid : Prop := Claim7.holds Tryz.pinned (.plain (OpenSpec.ofChange astTextsSpec)) astTextsCard

/-- THE TIED CARD OF 'heartwoodlaw09.AstFinds'. -/
def astFindsCard : Claim7 := { stood := { row := astFindsRow, standIns := [], harness := (true, "7439f9dfa9b91c7a5d400fd7a1f6b0f172f8a9675cb6e38ffb91c215a879b887"), looks := false }, kinds := [], alts := [], laidByText := true, laidKinds := [.data, .data, .data, .listed, .data], laidTests := true, laidLooks := .later }
def AstFindsCardSaid : Prop := Claim7.holds Tryz.pinned (.plain (OpenSpec.ofChange astFindsSpec)) astFindsCard

/-- THE SECOND FORM's CARD OF 'heartwoodlaw12.HeapForms'. -/
def heapFormsUptoCard : Claim7 := { stood := { row := heapFormsUptoRow, standIns := [], harness := (true, "7439f9dfa9b91c7a5d400fd7a1f6b0f172f8a9675cb6e38ffb91c215a879b887"), looks := false }, kinds := [], alts := [], laidByText := true, laidKinds := [.listed, .data], laidTests := true, laidLooks := .later }
def HeapFormsUptoCardSaid : Prop := Claim7.holds Tryz.pinned (.plain (OpenSpec.upto heapFormsSpec)) heapFormsUptoCard

/-- THE SECOND FORM's CARD OF 'heartwoodlaw12.HeapReaches'. -/
def heapReachesUptoCard : Claim7 := { stood := { row := heapReachesUptoRow, standIns := [], harness := (true, "7439f9dfa9b91c7a5d400fd7a1f6b0f172f8a9675cb6e38ffb91c215a879b887"), looks := false }, kinds := [], alts := [], laidByText := true, laidKinds := [.listed, .data], laidTests := true, laidLooks := .later }
def HeapReachesUptoCardSaid : Prop := Claim7.holds Tryz.pinned (.plain (OpenSpec.upto heapReachesSpec)) heapReachesUptoCard

/-- THE SECOND FORM's CARD OF 'heartwoodlaw12.HeapTrees'. -/
def heapTreesUptoCard : Claim7 := { stood := { row := heapTreesUptoRow, standIns := [], harness := (true, "7439f9dfa9b91c7a5d400fd7a1f6b0f172f8a9675cb6e38ffb91c215a879b887"), looks := false }, kinds := [], alts := [], laidByText := true, laidKinds := [.listed, .data], laidTests := true, laidLooks := .later }
def HeapTreesUptoCardSaid : Prop := Claim7.holds Tryz.pinned (.plain (OpenSpec.upto heapTreesSpec)) heapTreesUptoCard

/-- THE SECOND FORM's CARD OF 'heartwoodlaw12.HeapWrites'. -/
def heapWritesUptoCard : Claim7 := { stood := { row := heapWritesUptoRow, standIns := [], harness := (true, "7439f9dfa9b91c7a5d400fd7a1f6b0f172f8a9675cb6e38ffb91c215a879b887"), looks := false }, kinds := [], alts := [], laidByText := true, laidKinds := [.listed, .data], laidTests := true, laidLooks := .later }
def HeapWritesUptoCardSaid : Prop := Claim7.holds Tryz.pinned (.plain (OpenSpec.upto heapWritesSpec)) heapWritesUptoCard

/-- THE SECOND FORM's CARD OF 'heartwoodlaw12.HeapAccess'. -/
def heapAccessUptoCard : Claim7 := { stood := { row := heapAccessUptoRow, standIns := [], harness := (true, "7439f9dfa9b91c7a5d400fd7a1f6b0f172f8a9675cb6e38ffb91c215a879b887"), looks := false }, kinds := [], alts := [], laidByText := true, laidKinds := [.listed, .data], laidTests := true, laidLooks := .later }
def HeapAccessUptoCardSaid : Prop := Claim7.holds Tryz.pinned (.plain (OpenSpec.upto heapAccessSpec)) heapAccessUptoCard

/-- THE SECOND FORM's CARD OF 'heartwoodlaw12.HeapCanonical'. -/
def heapCanonicalUptoCard : Claim7 := { stood := { row := heapCanonicalUptoRow, standIns := [], harness := (true, "7439f9dfa9b91c7a5d400fd7a1f6b0f172f8a9675cb6e38ffb91c215a879b887"), looks := false }, kinds := [], alts := [], laidByText := true, laidKinds := [.listed, .data], laidTests := true, laidLooks := .later }
def HeapCanonicalUptoCardSaid : Prop := Claim7.holds Tryz.pinned (.plain (OpenSpec.upto heapCanonicalSpec)) heapCanonicalUptoCard

/-- THE SECOND FORM's CARD OF 'heartwoodlaw12.HeapTexts'. -/
def heapTextsUptoCard : Claim7 := { stood := { row := heapTextsUptoRow, standIns := [], harness := (true, "7439f9dfa9b91c7a5d400fd7a1f6b0f172f8a9675cb6e38ffb91c215a879b887"), looks := false }, kinds := [], alts := [], laidByText := true, laidKinds := [.data, .data, .data, .listed, .data], laidTests := true, laidLooks := .later }
def HeapTextsUptoCardSaid : Prop := Claim7.holds Tryz.pinned (.plain (OpenSpec.upto heapTextsSpec)) heapTextsUptoCard

/-- THE SECOND FORM's CARD OF 'heartwoodlaw09.AstTexts'. -/
def astTextsUptoCard : Claim7 := { stood := { row := astTextsUptoRow, standIns := [], harness := (true, "7439f9dfa9b91c7a5d400fd7a1f6b0f172f8a9675cb6e38ffb91c215a879b887"), looks := false }, kinds := [], alts := [], laidByText := true, laidKinds := [.data, .data, .data, .listed, .data], laidTests := true, laidLooks := .later }
def AstTextsUptoCardSaid : Prop := Claim7.holds Tryz.pinned (.plain (OpenSpec.upto astTextsSpec)) astTextsUptoCard

/-- THE SECOND FORM's CARD OF 'heartwoodlaw09.AstFinds'. -/
def astFindsUptoCard : Claim7 := { stood := { row := astFindsUptoRow, standIns := [], harness := (true, "7439f9dfa9b91c7a5d400fd7a1f6b0f172f8a9675cb6e38ffb91c215a879b887"), looks := false }, kinds := [], alts := [], laidByText := true, laidKinds := [.data, .data, .data, .listed, .data], laidTests := true, laidLooks := .later }
def AstFindsUptoCardSaid : Prop := Claim7.holds Tryz.pinned (.plain (OpenSpec.upto astFindsSpec)) astFindsUptoCard
end Rows
end Go.Proofs.YtmnhegkogibipaaGreatDoor
