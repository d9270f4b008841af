/- The engine and the contracts. -/
import Derived.Test.YtgcfmjlnapcioaaGreatDoorFullretroCostsA
import Derived.Test.YtgcfmjlnapcioaaGreatDoorC10
import Derived.Test.YtgcfmjlnapcioaaGreatDoorE3
import Derived.Test.YtgcfmjlnapcioaaGreatDoorTie
import Derived.Test.YtgcfmjlnapcioaaGreatDoorCards
import Derived.ProofKit
import Derived.LaidMore
import Derived.Lay
import Derived.SevenTiedAt
import Derived.Stop.Joined
set_option linter.unusedVariables false
set_option linter.unusedSimpArgs false
namespace Go.Proofs.YtgcfmjlnapcioaaGreatDoor.FullretroCostsP
open Go Go.ChangeShapes Go.WideShapes Go.ChangeAt Go.RowKit Hw Hw.M Hw.Fr
theorem cardW:Rows.fullretroCostsRow.wfByText (OpenSpec.ofChange Rows.fullretroCostsSpec)=true:=by kernel_rfl
theorem cardM:Tryz.pinned.checked.prog.mainIs=some (true, "8fa9968ba6f05307e5349dc7c8f73fec19296793cba51b8320e2f53ee0576a69".toList):=by kernel_rfl
theorem cardG:false=Rows.fullretroCostsRow.goesBy Tryz.pinned.checked.prog:=by kernel_rfl
theorem card:Rows.FullretroCostsCardSaid:=
 Claim7.holds_tied_plain_at .later [] [.data,.data,.data,.sentinel,.sentinel,.listed,.data] true (true, "8fa9968ba6f05307e5349dc7c8f73fec19296793cba51b8320e2f53ee0576a69") true said (fun _ h=>by cases h) cardW (fun _ h=>by cases h) fullretroCosts_row_tie rfl ⟨rfl,rfl⟩ cardM rfl plain cardG
end Go.Proofs.YtgcfmjlnapcioaaGreatDoor.FullretroCostsP