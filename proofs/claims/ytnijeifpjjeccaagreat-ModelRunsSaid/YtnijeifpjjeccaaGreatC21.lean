/- The engine and the contracts. -/
import Derived.Test.YtnijeifpjjeccaaGreatC20
import Derived.Test.YtnijeifpjjeccaaGreatC4
import Derived.Test.YtnijeifpjjeccaaGreatE3
set_option linter.unusedVariables false
set_option linter.unusedSimpArgs false
namespace Hw.Mz
open Go Go.Proofs Hw.M

/-! the readings of states, operations and lists of numbers -/
section
variable {H : Type} {enc : TypeId × Value → H} {w : World} {base : Nat} {spare : Nat → Bool} {held : Bool}
theorem rd_ints (n : Nat) : Rd enc Tryz.prog w base spare held n 25 (fun l : List Int => [intsP l]) :=
  rd_slice (e := 3) (c := 1) (R := intR) (by kernel_rfl) (by kernel_rfl) (by decide) fun m _ => rd_int (by kernel_rfl)
theorem rd_rows (n : Nat) : Rd enc Tryz.prog w base spare held n 22 (fun R : Rws => [rowsP R]) :=
  rd_slice (e := 25) (c := 1) (R := rowR) (by kernel_rfl) (by kernel_rfl) (by decide) fun m _ => rd_ints m
theorem rd_st (n : Nat) : Rd enc Tryz.prog w base spare held n 24 (fun a : Int × Rws => stR a.1 a.2) := by
  intro cs x h
  obtain ⟨m, rfl, c0, r0, x0, rfl, h0, c1, r1, x1, rfl, h1, rfl⟩ := trod_pieces (l := [(3, 1), (22, 1)]) (by kernel_rfl) h
  obtain ⟨a0, k0⟩ := rd_int (by kernel_rfl) c0 x0 h0
  obtain ⟨a1, k1⟩ := rd_rows m c1 x1 h1
  refine ⟨(a0, a1), ?_⟩
  exact (k0.app (k1.app (show CellsM (memOf w) [] [] from trivial)))
theorem rd_op (n : Nat) : Rd enc Tryz.prog w base spare held n 27 opR := by
  intro cs x h
  obtain ⟨m, rfl, c0, r0, x0, rfl, h0, c1, r1, x1, rfl, h1, rfl⟩ := trod_pieces (l := [(3, 1), (25, 1)]) (by kernel_rfl) h
  obtain ⟨a0, k0⟩ := rd_int (by kernel_rfl) c0 x0 h0
  obtain ⟨a1, k1⟩ := rd_ints m c1 x1 h1
  refine ⟨⟨a0, a1⟩, ?_⟩
  exact (k0.app (k1.app (show CellsM (memOf w) [] [] from trivial)))
theorem rd_ops (n : Nat) : Rd enc Tryz.prog w base spare held n 42 (fun l : List OpT => [.sl 2 (l.map opR)]) :=
  rd_slice (e := 27) (c := 2) (R := opR) (by kernel_rfl) (by kernel_rfl) (by decide) fun m _ => rd_op m
end
end Hw.Mz
namespace Hw.Mz
open Go Go.Proofs Go.WideShapes Hw.M

/-! the reading of a boolean -/
theorem rs_bool {P : Program} {M : Mem} {ρ : Nat → Value} {w : World} {r : Reach} {b0 : Nat} {t : TypeId} {v : Value} (hs : P.underlying t = some .bool) (hv : Value.okWide P w r b0 t v) : ∃ b : Bool, RepS M ρ (Bo b) v := by
  obtain ⟨b, rfl⟩ := okWide_bool hs hv
  exact ⟨b, by simp [RepS, RepV, RepPV, Value.oneCell']⟩
end Hw.Mz
