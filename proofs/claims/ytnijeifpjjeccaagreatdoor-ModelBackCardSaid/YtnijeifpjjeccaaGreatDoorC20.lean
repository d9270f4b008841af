/- A laid variable that holds an interface value. -/
import Derived.Test.YtnijeifpjjeccaaGreatDoorC19
import Derived.Test.YtnijeifpjjeccaaGreatDoorE3
import Derived.Lib.LaidTab
import Derived.Test.YtnijeifpjjeccaaGreatDoorC4
set_option linter.unusedVariables false
set_option linter.unusedSimpArgs false
namespace Hw
open Go Go.Proofs
theorem iface_cell {P : Program} {W : World} {name nm : String} {d : DataW Unit} {rest : List (String × DataW Unit)} {g : Nat} {t : TypeId} {ms : Array (String × TypeId)}
    (hg : P.globalNamed name = some g) (hty : (P.globals[g]?).map (·.type) = some t) (ht : P.underlying t = some (.interface ms)) (h : laidMet P ((name, .iface nm d) :: rest) W) : ∃ u v, memOf W g 0 = some (.iface u v) := by
  obtain ⟨ps, ⟨g', t', cs, fuel, p, q, hg', ht', hvar, hd, _, _⟩, _⟩ := h
  obtain rfl := Option.some.inj (hg.symm.trans hg')
  obtain rfl := Option.some.inj (hty.symm.trans ht')
  have hc := World.var?_cell hg hvar 0
  unfold memOf
  rw [hc]
  cases fuel with
  | zero => simp [DataW.trod] at hd
  | succ fuel =>
    rw [← Array.getElem?_toList]
    generalize cs.toList = l at hd
    match l, hd with
    | [], hd => simp [DataW.trod, ht] at hd
    | v :: w :: r, hd => simp [DataW.trod, ht] at hd
    | [v], hd =>
      cases v with
      | iface u x => exact ⟨u, x, rfl⟩
      | _ => simp [DataW.trod, ht] at hd
end Hw
namespace Hw.Mq
open Go Go.Proofs Hw.M

/-! the readings of states, operations and lists of numbers -/
section
variable {H : Type} {enc : TypeId × Value → H} {w : World} {base : Nat} {spare : Nat → Bool} {held : Bool}
theorem rd_ints (n : Nat) : Rd enc Tryz.prog w base spare held n 22 (fun l : List Int => [intsP l]) :=
  rd_slice (e := 3) (c := 1) (R := intR) (by kernel_rfl) (by kernel_rfl) (by decide) fun m _ => rd_int (by kernel_rfl)
theorem rd_rows (n : Nat) : Rd enc Tryz.prog w base spare held n 39 (fun R : Rws => [rowsP R]) :=
  rd_slice (e := 22) (c := 1) (R := rowR) (by kernel_rfl) (by kernel_rfl) (by decide) fun m _ => rd_ints m
theorem rd_st (n : Nat) : Rd enc Tryz.prog w base spare held n 41 (fun a : Int × Rws => stR a.1 a.2) := by
  intro cs x h
  obtain ⟨m, rfl, c0, r0, x0, rfl, h0, c1, r1, x1, rfl, h1, rfl⟩ := trod_pieces (l := [(3, 1), (39, 1)]) (by kernel_rfl) h
  obtain ⟨a0, k0⟩ := rd_int (by kernel_rfl) c0 x0 h0
  obtain ⟨a1, k1⟩ := rd_rows m c1 x1 h1
  refine ⟨(a0, a1), ?_⟩
  exact (k0.app (k1.app (show CellsM (memOf w) [] [] from trivial)))
theorem rd_op (n : Nat) : Rd enc Tryz.prog w base spare held n 24 opR := by
  intro cs x h
  obtain ⟨m, rfl, c0, r0, x0, rfl, h0, c1, r1, x1, rfl, h1, rfl⟩ := trod_pieces (l := [(3, 1), (22, 1)]) (by kernel_rfl) h
  obtain ⟨a0, k0⟩ := rd_int (by kernel_rfl) c0 x0 h0
  obtain ⟨a1, k1⟩ := rd_ints m c1 x1 h1
  refine ⟨⟨a0, a1⟩, ?_⟩
  exact (k0.app (k1.app (show CellsM (memOf w) [] [] from trivial)))
theorem rd_ops (n : Nat) : Rd enc Tryz.prog w base spare held n 48 (fun l : List OpT => [.sl 2 (l.map opR)]) :=
  rd_slice (e := 24) (c := 2) (R := opR) (by kernel_rfl) (by kernel_rfl) (by decide) fun m _ => rd_op m
end
end Hw.Mq
