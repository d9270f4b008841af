/- The engine and the contracts. -/
import Derived.Test.YtnijeifpjjeccaaC16
import Derived.Test.YtnijeifpjjeccaaE3
import Derived.OpenShut
set_option linter.unusedVariables false
set_option linter.unusedSimpArgs false
namespace Hw.Mo
open Go Go.Proofs Hw.M

/-! the reading of an uint8, and of lists of pairs of these -/
theorem u8_wf {b : Int} (hw : (Lit.int .u8 b).wf = true) : 0 ≤ b ∧ b ≤ 255 := by
  simp [Lit.wf, IntKind.min, IntKind.max, IntKind.bits, IntKind.signed] at hw
  omega
section
variable {H : Type} {enc : TypeId × Value → H} {w : World} {base : Nat} {spare : Nat → Bool} {held : Bool}
theorem rd_u8' {n : Nat} {cs : List Value} {x : DataW H × List MemPlace} (h : DataW.trod enc Try.prog w base spare held n 5 cs = some x) : ∃ i : U8, cs = [.int .u8 i.1] := by
  obtain ⟨i, rfl, _, hw⟩ := DataW.trod_int (k := .u8) (by kernel_rfl) h
  exact ⟨⟨i, u8_wf hw⟩, rfl⟩
theorem two_vals {cs : List Value} (h : cs.length = 2) : ∃ a b, cs = [a, b] := by
  cases cs with
  | nil => cases h
  | cons a l => cases l with
    | nil => cases h
    | cons b l => cases l with
      | nil => exact ⟨a, b, rfl⟩
      | cons c l => simp at h
theorem rd_pair (n : Nat) : Rd enc Try.prog w base spare held n 55 pairR := by
  intro cs x h
  obtain ⟨xs, m, rfl, _, hl, hxl, hel⟩ := DataW.trod_array (n := 2) (e := 5) (by kernel_rfl) h
  have h55 : Try.prog.cellsOf 55 = 2 := by kernel_rfl
  have h5 : Try.prog.cellsOf 5 = 1 := by kernel_rfl
  rw [h55] at hl
  have h0 := hel 0 (by decide)
  have h1 := hel 1 (by decide)
  rw [h5, List.getElem?_eq_getElem (by omega)] at h0 h1
  obtain ⟨a, b, rfl⟩ := two_vals hl
  obtain ⟨i, hi⟩ := rd_u8' h0
  obtain ⟨j, hj⟩ := rd_u8' h1
  have hi : a = .int .u8 i.1 := by simpa using hi
  have hj : b = .int .u8 j.1 := by simpa using hj
  rw [hi, hj]
  exact ⟨(i, j), ⟨by simp [RepPV, Value.oneCell'], ⟨by simp [RepPV, Value.oneCell'], trivial⟩⟩⟩
theorem rd_pairs (n : Nat) : Rd enc Try.prog w base spare held n 54 (fun l : List (U8 × U8) => [.sl 2 (l.map pairR)]) :=
  rd_slice (e := 55) (c := 2) (R := pairR) (by kernel_rfl) (by kernel_rfl) (by decide) fun m _ => rd_pair m
end
end Hw.Mo
