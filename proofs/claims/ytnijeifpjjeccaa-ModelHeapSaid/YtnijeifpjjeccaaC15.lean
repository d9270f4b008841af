/- The engine and the contracts. -/
import Derived.Test.YtnijeifpjjeccaaC14
import Derived.Test.YtnijeifpjjeccaaE3
set_option linter.unusedVariables false
set_option linter.unusedSimpArgs false
namespace Hw.Mo
open Go Go.Proofs Hw.M

/-! the reading of lists of int16 -/
section
variable {H : Type} {enc : TypeId × Value → H} {w : World} {base : Nat} {spare : Nat → Bool} {held : Bool}
theorem rd_i16 (n : Nat) : Rd enc Try.prog w base spare held n 24 i16R := by
  intro cs x h
  obtain ⟨i, rfl, _, hw⟩ := DataW.trod_int (k := .i16) (by kernel_rfl) h
  have hb : -32768 ≤ i ∧ i ≤ 32767 := by
    simp [Lit.wf, IntKind.min, IntKind.max, IntKind.bits, IntKind.signed] at hw
    omega
  exact ⟨⟨i, hb⟩, ⟨by simp [RepPV, Value.oneCell'], trivial⟩⟩
theorem rd_i16s (n : Nat) : Rd enc Try.prog w base spare held n 49 (fun l : List I16 => [.sl 1 (l.map i16R)]) :=
  rd_slice (e := 24) (c := 1) (R := i16R) (by kernel_rfl) (by kernel_rfl) (by decide) fun m _ => rd_i16 m
end
end Hw.Mo
