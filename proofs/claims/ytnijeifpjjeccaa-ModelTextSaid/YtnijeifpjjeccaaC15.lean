/- The engine and the contracts. -/
import Derived.Test.YtnijeifpjjeccaaC14
import Derived.Test.YtnijeifpjjeccaaE3
set_option linter.unusedVariables false
set_option linter.unusedSimpArgs false
namespace Hw.Mo
open Go Go.Proofs Hw.M

/-! the reading of lists of uint8, and of an uint8 -/
theorem u8_wf {b : Int} (hw : (Lit.int .u8 b).wf = true) : 0 ≤ b ∧ b ≤ 255 := by
  simp [Lit.wf, IntKind.min, IntKind.max, IntKind.bits, IntKind.signed] at hw
  omega
section
variable {H : Type} {enc : TypeId × Value → H} {w : World} {base : Nat} {spare : Nat → Bool} {held : Bool}
theorem rd_u8' (n : Nat) : Rd enc Try.prog w base spare held n 5 u8R := by
  intro cs x h
  obtain ⟨i, rfl, _, hw⟩ := DataW.trod_int (k := .u8) (by kernel_rfl) h
  exact ⟨⟨i, u8_wf hw⟩, ⟨by simp [RepPV, Value.oneCell'], trivial⟩⟩
theorem rd_u8s (n : Nat) : Rd enc Try.prog w base spare held n 59 (fun l : List U8 => [.sl 1 (l.map u8R)]) :=
  rd_slice (e := 5) (c := 1) (R := u8R) (by kernel_rfl) (by kernel_rfl) (by decide) fun m _ => rd_u8' m
end
end Hw.Mo
