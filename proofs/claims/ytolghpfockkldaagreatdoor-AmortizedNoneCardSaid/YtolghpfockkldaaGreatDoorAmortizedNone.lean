/- The engine and the contracts. -/
import Derived.Test.YtolghpfockkldaaGreatDoorAmortizedNoneA
import Derived.Test.YtolghpfockkldaaGreatDoorC10
import Derived.Test.YtolghpfockkldaaGreatDoorE3
import Derived.Test.YtolghpfockkldaaGreatDoorTie
import Derived.Test.YtolghpfockkldaaGreatDoorCards
import Derived.ProofKit
import Derived.LaidMore
import Derived.Lay
import Derived.SevenTiedAt
import Derived.Stop.Joined
set_option linter.unusedVariables false
set_option linter.unusedSimpArgs false
set_option linter.unusedSectionVars false
set_option linter.unnecessarySimpa false
namespace Go.Proofs.YtolghpfockkldaaGreatDoor.AmortizedNoneP
open Go Go.ChangeShapes Go.WideShapes Go.ChangeAt Go.RowKit Hw Hw.M Hw.Gm
theorem cardW:Rows.amortizedNoneRow.wfByText (OpenSpec.ofChange Rows.amortizedNoneSpec)=true:=by kernel_rfl
theorem cardM:Tryz.pinned.checked.prog.mainIs=some (true, "a80cc2d10b8a8adad3bce3b287fa630e4147685db7e9985178b772822b885892".toList):=by kernel_rfl
theorem cardG:false=Rows.amortizedNoneRow.goesBy Tryz.pinned.checked.prog:=by kernel_rfl
theorem card:Rows.AmortizedNoneCardSaid:=
 Claim7.holds_tied_plain_at .later [] [.data,.data,.data,.sentinel,.sentinel,.listed,.data] true (true, "a80cc2d10b8a8adad3bce3b287fa630e4147685db7e9985178b772822b885892") true said (fun _ h=>by cases h) cardW (fun _ h=>by cases h) amortizedNone_row_tie rfl ⟨rfl,rfl⟩ cardM rfl plain cardG
end Go.Proofs.YtolghpfockkldaaGreatDoor.AmortizedNoneP