/-
  No cell of these rows narrows 'for every input' (looked for: loops, veiled, ifaces, maps, wideKeys, modest, calm, conditions, laid).
  DERIVED. THE GIVEN ROWS OF THIS SEAT. 8 by the template 'for every input the law returns true; each argument reads behind the call as it read before'; 0 by the template 'total and deterministic' (their statements: YtnijeifpjjeccaaTotals.lean).
  GIVEN WITH THE SEED: the statements are not yours to turn. If you find one false, say at which input.
  Laid BY PROGRAM, IN A SANDBOX (cutbox-rows.mjs): the forced cells as the released guide's own fill.sh prints them over the translation 2213a4f4a4a0d20e… (all of the seat's roots in one cut). By AI agents, Wed Nov 11 2026. No macro, syntax, notation, axiom, sorry.
-/
import Derived.Test.YtnijeifpjjeccaaChecked
import GoSem.Claim
import GoSem.ClaimJoined
import GoSem.ClaimMapViews
import Derived.JoinedTies
import Derived.KernelRfl
namespace Go.Proofs.Ytnijeifpjjeccaa
/- THE CELL 'sum', in the pinned program and in every row, IS THE sha256 OF THE DUMP (.gsa) THAT YtnijeifpjjeccaaProg.lean LOADS. Nothing in Lean hashes anything: it is a label: what it is worth is what the hold of that sum in a sandbox is worth. -/
noncomputable def Try.pinned : Pinned := { name := "ytnijeifpjjeccaa", sum := "2213a4f4a4a0d20e482bff8813ea98912718bdfbfd93423435fd997126726970", checked := Try.checked }
namespace Rows
def none {H : Type} : Left H := { results := [], args := [] }

/-- 'heartwoodlaw03.ModelDict': WHATEVER THE INPUT: true; the input reads as it did. -/
def modelDictSpec : ChangeSpec := { name := "modelDict", fn := fun _ => fun
  | [d1, d2, d3] => { results := [.lit (.bool true)], args := [d1, d2, d3] }
  | _ => none }
def modelDictRow : OpenClaim := { program := "ytnijeifpjjeccaa", sum := "2213a4f4a4a0d20e482bff8813ea98912718bdfbfd93423435fd997126726970", func := "heartwood/heartwoodlaw03.ModelDict", spec := "modelDict", inPlace := ["slices.overlaps[[]int]"], unfollowed := true, recurses := true, apart := false }
def ModelDictSaid : Prop := modelDictRow.holds Try.pinned (OpenSpec.ofChange modelDictSpec)

/-- ITS FALSE NEIGHBOUR: 'it returns false'. Refute it at one input. -/
def modelDictWrong : ChangeSpec := { name := "modelDict", fn := fun _ => fun
  | [d1, d2, d3] => { results := [.lit (.bool false)], args := [d1, d2, d3] }
  | _ => none }
def ModelDictWrongFalsely : Prop := modelDictRow.holds Try.pinned (OpenSpec.ofChange modelDictWrong)

/-- 'heartwoodlaw03.ModelHeap': WHATEVER THE INPUT: true; the input reads as it did. -/
def modelHeapSpec : ChangeSpec := { name := "modelHeap", fn := fun _ => fun
  | [d] => { results := [.lit (.bool true)], args := [d] }
  | _ => none }
def modelHeapRow : OpenClaim := { program := "ytnijeifpjjeccaa", sum := "2213a4f4a4a0d20e482bff8813ea98912718bdfbfd93423435fd997126726970", func := "heartwood/heartwoodlaw03.ModelHeap", spec := "modelHeap", inPlace := ["slices.overlaps[[]int]"], unfollowed := true, recurses := true, apart := false }
def ModelHeapSaid : Prop := modelHeapRow.holds Try.pinned (OpenSpec.ofChange modelHeapSpec)

/-- ITS FALSE NEIGHBOUR: 'it returns false'. Refute it at one input. -/
def modelHeapWrong : ChangeSpec := { name := "modelHeap", fn := fun _ => fun
  | [d] => { results := [.lit (.bool false)], args := [d] }
  | _ => none }
def ModelHeapWrongFalsely : Prop := modelHeapRow.holds Try.pinned (OpenSpec.ofChange modelHeapWrong)

/-- 'heartwoodlaw03.ModelSeq': WHATEVER THE INPUT: true; the input reads as it did. -/
def modelSeqSpec : ChangeSpec := { name := "modelSeq", fn := fun _ => fun
  | [d1, d2, d3, d4, d5] => { results := [.lit (.bool true)], args := [d1, d2, d3, d4, d5] }
  | _ => none }
def modelSeqRow : OpenClaim := { program := "ytnijeifpjjeccaa", sum := "2213a4f4a4a0d20e482bff8813ea98912718bdfbfd93423435fd997126726970", func := "heartwood/heartwoodlaw03.ModelSeq", spec := "modelSeq", inPlace := ["slices.overlaps[[]int]"], unfollowed := true, recurses := true, apart := false }
def ModelSeqSaid : Prop := modelSeqRow.holds Try.pinned (OpenSpec.ofChange modelSeqSpec)

/-- ITS FALSE NEIGHBOUR: 'it returns false'. Refute it at one input. -/
def modelSeqWrong : ChangeSpec := { name := "modelSeq", fn := fun _ => fun
  | [d1, d2, d3, d4, d5] => { results := [.lit (.bool false)], args := [d1, d2, d3, d4, d5] }
  | _ => none }
def ModelSeqWrongFalsely : Prop := modelSeqRow.holds Try.pinned (OpenSpec.ofChange modelSeqWrong)

/-- 'heartwoodlaw03.ModelSets': WHATEVER THE INPUT: true; the input reads as it did. -/
def modelSetsSpec : ChangeSpec := { name := "modelSets", fn := fun _ => fun
  | [d1, d2] => { results := [.lit (.bool true)], args := [d1, d2] }
  | _ => none }
def modelSetsRow : OpenClaim := { program := "ytnijeifpjjeccaa", sum := "2213a4f4a4a0d20e482bff8813ea98912718bdfbfd93423435fd997126726970", func := "heartwood/heartwoodlaw03.ModelSets", spec := "modelSets", inPlace := ["slices.overlaps[[]int]"], unfollowed := true, recurses := true, apart := false }
def ModelSetsSaid : Prop := modelSetsRow.holds Try.pinned (OpenSpec.ofChange modelSetsSpec)

/-- ITS FALSE NEIGHBOUR: 'it returns false'. Refute it at one input. -/
def modelSetsWrong : ChangeSpec := { name := "modelSets", fn := fun _ => fun
  | [d1, d2] => { results := [.lit (.bool false)], args := [d1, d2] }
  | _ => none }
def ModelSetsWrongFalsely : Prop := modelSetsRow.holds Try.pinned (OpenSpec.ofChange modelSetsWrong)

/-- 'heartwoodlaw03.ModelRange': WHATEVER THE INPUT: true; the input reads as it did. -/
def modelRangeSpec : ChangeSpec := { name := "modelRange", fn := fun _ => fun
  | [d1, d2, d3, d4] => { results := [.lit (.bool true)], args := [d1, d2, d3, d4] }
  | _ => none }
def modelRangeRow : OpenClaim := { program := "ytnijeifpjjeccaa", sum := "2213a4f4a4a0d20e482bff8813ea98912718bdfbfd93423435fd997126726970", func := "heartwood/heartwoodlaw03.ModelRange", spec := "modelRange", inPlace := ["slices.overlaps[[]int]"], unfollowed := true, recurses := true, apart := false }
def ModelRangeSaid : Prop := modelRangeRow.holds Try.pinned (OpenSpec.ofChange modelRangeSpec)

/-- ITS FALSE NEIGHBOUR: 'it returns false'. Refute it at one input. -/
def modelRangeWrong : ChangeSpec := { name := "modelRange", fn := fun _ => fun
  | [d1, d2, d3, d4] => { results := [.lit (.bool false)], args := [d1, d2, d3, d4] }
  | _ => none }
def ModelRangeWrongFalsely : Prop := modelRangeRow.holds Try.pinned (OpenSpec.ofChange modelRangeWrong)

/-- 'heartwoodlaw03.ModelText': WHATEVER THE INPUT: true; the input reads as it did. -/
def modelTextSpec : ChangeSpec := { name := "modelText", fn := fun _ => fun
  | [d1, d2, d3] => { results := [.lit (.bool true)], args := [d1, d2, d3] }
  | _ => none }
def modelTextRow : OpenClaim := { program := "ytnijeifpjjeccaa", sum := "2213a4f4a4a0d20e482bff8813ea98912718bdfbfd93423435fd997126726970", func := "heartwood/heartwoodlaw03.ModelText", spec := "modelText", inPlace := ["slices.overlaps[[]int]"], unfollowed := true, recurses := true, apart := false }
def ModelTextSaid : Prop := modelTextRow.holds Try.pinned (OpenSpec.ofChange modelTextSpec)

/-- ITS FALSE NEIGHBOUR: 'it returns false'. Refute it at one input. -/
def modelTextWrong : ChangeSpec := { name := "modelText", fn := fun _ => fun
  | [d1, d2, d3] => { results := [.lit (.bool false)], args := [d1, d2, d3] }
  | _ => none }
def ModelTextWrongFalsely : Prop := modelTextRow.holds Try.pinned (OpenSpec.ofChange modelTextWrong)

/-- 'heartwoodlaw03.ModelForms': WHATEVER THE INPUT: true; the input reads as it did. -/
def modelFormsSpec : ChangeSpec := { name := "modelForms", fn := fun _ => fun
  | [d1, d2, d3, d4, d5] => { results := [.lit (.bool true)], args := [d1, d2, d3, d4, d5] }
  | _ => none }
def modelFormsRow : OpenClaim := { program := "ytnijeifpjjeccaa", sum := "2213a4f4a4a0d20e482bff8813ea98912718bdfbfd93423435fd997126726970", func := "heartwood/heartwoodlaw03.ModelForms", spec := "modelForms", inPlace := ["slices.overlaps[[]int]"], unfollowed := true, recurses := true, apart := false }
def ModelFormsSaid : Prop := modelFormsRow.holds Try.pinned (OpenSpec.ofChange modelFormsSpec)

/-- ITS FALSE NEIGHBOUR: 'it returns false'. Refute it at one input. -/
def modelFormsWrong : ChangeSpec := { name := "modelForms", fn := fun _ => fun
  | [d1, d2, d3, d4, d5] => { results := [.lit (.bool false)], args := [d1, d2, d3, d4, d5] }
  | _ => none }
def ModelFormsWrongFalsely : Prop := modelFormsRow.holds Try.pinned (OpenSpec.ofChange modelFormsWrong)

/-- 'heartwoodlaw03.ModelQuiet': WHATEVER THE INPUT: true; the input reads as it did. -/
def modelQuietSpec : ChangeSpec := { name := "modelQuiet", fn := fun _ => fun
  | [d1, d2] => { results := [.lit (.bool true)], args := [d1, d2] }
  | _ => none }
def modelQuietRow : OpenClaim := { program := "ytnijeifpjjeccaa", sum := "2213a4f4a4a0d20e482bff8813ea98912718bdfbfd93423435fd997126726970", func := "heartwood/heartwoodlaw03.ModelQuiet", spec := "modelQuiet", inPlace := ["slices.overlaps[[]int]"], unfollowed := true, recurses := true, apart := false }
def ModelQuietSaid : Prop := modelQuietRow.holds Try.pinned (OpenSpec.ofChange modelQuietSpec)

/-- ITS FALSE NEIGHBOUR: 'it returns false'. Refute it at one input. -/
def modelQuietWrong : ChangeSpec := { name := "modelQuiet", fn := fun _ => fun
  | [d1, d2] => { results := [.lit (.bool false)], args := [d1, d2] }
  | _ => none }
def ModelQuietWrongFalsely : Prop := modelQuietRow.holds Try.pinned (OpenSpec.ofChange modelQuietWrong)

/- THE SECOND FORM. 'bulk': how many values and letters a reading holds, each counted each time it is reached (what is shared counts as often as it is met; a slice's spare places count too). A statement '..UptoSaid' is the law's where the arguments, and the package variables that the reading takes, are together of bulk at most 1048576: NARROWER than '..Said'. Prove '..Said' where nothing that the law and all that it calls make is longer than what came in: it says more and counts as full. Else prove '..UptoSaid'. A law counts once. -/
mutual
def uptoBulk {H : Type} : DataW H → Nat
  | .lit (.string bytes) => bytes.length + 1
  | .lit _ => 1
  | .nil => 1
  | .ptr d => uptoBulk d + 1
  | .slice elems spare => uptoBulkAll elems + uptoBulkAll spare + 1
  | .agg parts => uptoBulkAll parts + 1
  | .iface _ d => uptoBulk d + 1
  | .map entries => uptoBulkEntries entries + 1
  | .held _ => 1
def uptoBulkAll {H : Type} : List (DataW H) → Nat
  | [] => 0
  | d :: r => uptoBulk d + uptoBulkAll r
def uptoBulkEntries {H : Type} : List (Lit × DataW H) → Nat
  | [] => 0
  | x :: r => uptoBulkEntry x + uptoBulkEntries r
def uptoBulkEntry {H : Type} : Lit × DataW H → Nat
  | (.string bytes, d) => bytes.length + uptoBulk d + 1
  | (_, d) => uptoBulk d + 1
 end
def uptoSmall : (H : Type) → List (DataW H) → Bool := fun _ ds => decide (uptoBulkAll ds ≤ 1048576)
def OpenSpec.upto (s : _root_.Go.ChangeSpec) : _root_.Go.OpenSpec := { _root_.Go.OpenSpec.ofChange s with cond := some uptoSmall }

/-- 'heartwoodlaw03.ModelDict', WHERE WHAT IT READS IS OF BULK AT MOST 1048576: true; the input reads as it did. -/
def modelDictUptoRow : OpenClaim := { program := "ytnijeifpjjeccaa", sum := "2213a4f4a4a0d20e482bff8813ea98912718bdfbfd93423435fd997126726970", func := "heartwood/heartwoodlaw03.ModelDict", spec := "modelDict", inPlace := ["slices.overlaps[[]int]"], unfollowed := true, recurses := true, apart := false, narrowed := true }
def ModelDictUptoSaid : Prop := modelDictUptoRow.holds Try.pinned (OpenSpec.upto modelDictSpec)

/-- 'heartwoodlaw03.ModelHeap', WHERE WHAT IT READS IS OF BULK AT MOST 1048576: true; the input reads as it did. -/
def modelHeapUptoRow : OpenClaim := { program := "ytnijeifpjjeccaa", sum := "2213a4f4a4a0d20e482bff8813ea98912718bdfbfd93423435fd997126726970", func := "heartwood/heartwoodlaw03.ModelHeap", spec := "modelHeap", inPlace := ["slices.overlaps[[]int]"], unfollowed := true, recurses := true, apart := false, narrowed := true }
def ModelHeapUptoSaid : Prop := modelHeapUptoRow.holds Try.pinned (OpenSpec.upto modelHeapSpec)

/-- 'heartwoodlaw03.ModelSeq', WHERE WHAT IT READS IS OF BULK AT MOST 1048576: true; the input reads as it did. -/
def modelSeqUptoRow : OpenClaim := { program := "ytnijeifpjjeccaa", sum := "2213a4f4a4a0d20e482bff8813ea98912718bdfbfd93423435fd997126726970", func := "heartwood/heartwoodlaw03.ModelSeq", spec := "modelSeq", inPlace := ["slices.overlaps[[]int]"], unfollowed := true, recurses := true, apart := false, narrowed := true }
def ModelSeqUptoSaid : Prop := modelSeqUptoRow.holds Try.pinned (OpenSpec.upto modelSeqSpec)

/-- 'heartwoodlaw03.ModelSets', WHERE WHAT IT READS IS OF BULK AT MOST 1048576: true; the input reads as it did. -/
def modelSetsUptoRow : OpenClaim := { program := "ytnijeifpjjeccaa", sum := "2213a4f4a4a0d20e482bff8813ea98912718bdfbfd93423435fd997126726970", func := "heartwood/heartwoodlaw03.ModelSets", spec := "modelSets", inPlace := ["slices.overlaps[[]int]"], unfollowed := true, recurses := true, apart := false, narrowed := true }
def ModelSetsUptoSaid : Prop := modelSetsUptoRow.holds Try.pinned (OpenSpec.upto modelSetsSpec)

/-- 'heartwoodlaw03.ModelRange', WHERE WHAT IT READS IS OF BULK AT MOST 1048576: true; the input reads as it did. -/
def modelRangeUptoRow : OpenClaim := { program := "ytnijeifpjjeccaa", sum := "2213a4f4a4a0d20e482bff8813ea98912718bdfbfd93423435fd997126726970", func := "heartwood/heartwoodlaw03.ModelRange", spec := "modelRange", inPlace := ["slices.overlaps[[]int]"], unfollowed := true, recurses := true, apart := false, narrowed := true }
def ModelRangeUptoSaid : Prop := modelRangeUptoRow.holds Try.pinned (OpenSpec.upto modelRangeSpec)

/-- 'heartwoodlaw03.ModelText', WHERE WHAT IT READS IS OF BULK AT MOST 1048576: true; the input reads as it did. -/
def modelTextUptoRow : OpenClaim := { program := "ytnijeifpjjeccaa", sum := "2213a4f4a4a0d20e482bff8813ea98912718bdfbfd93423435fd997126726970", func := "heartwood/heartwoodlaw03.ModelText", spec := "modelText", inPlace := ["slices.overlaps[[]int]"], unfollowed := true, recurses := true, apart := false, narrowed := true }
def ModelTextUptoSaid : Prop := modelTextUptoRow.holds Try.pinned (OpenSpec.upto modelTextSpec)

/-- 'heartwoodlaw03.ModelForms', WHERE WHAT IT READS IS OF BULK AT MOST 1048576: true; the input reads as it did. -/
def modelFormsUptoRow : OpenClaim := { program := "ytnijeifpjjeccaa", sum := "2213a4f4a4a0d20e482bff8813ea98912718bdfbfd93423435fd997126726970", func := "heartwood/heartwoodlaw03.ModelForms", spec := "modelForms", inPlace := ["slices.overlaps[[]int]"], unfollowed := true, recurses := true, apart := false, narrowed := true }
def ModelFormsUptoSaid : Prop := modelFormsUptoRow.holds Try.pinned (OpenSpec.upto modelFormsSpec)

/-- 'heartwoodlaw03.ModelQuiet', WHERE WHAT IT READS IS OF BULK AT MOST 1048576: true; the input reads as it did. -/
def modelQuietUptoRow : OpenClaim := { program := "ytnijeifpjjeccaa", sum := "2213a4f4a4a0d20e482bff8813ea98912718bdfbfd93423435fd997126726970", func := "heartwood/heartwoodlaw03.ModelQuiet", spec := "modelQuiet", inPlace := ["slices.overlaps[[]int]"], unfollowed := true, recurses := true, apart := false, narrowed := true }
def ModelQuietUptoSaid : Prop := modelQuietUptoRow.holds Try.pinned (OpenSpec.upto modelQuietSpec)

end Rows
end Go.Proofs.Ytnijeifpjjeccaa
