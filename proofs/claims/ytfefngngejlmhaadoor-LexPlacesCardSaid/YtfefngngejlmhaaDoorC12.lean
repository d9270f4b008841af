/- A laid variable that holds an interface value. -/
import Derived.Test.YtfefngngejlmhaaDoorC11
import Derived.Test.YtfefngngejlmhaaDoorE3
import Derived.Lib.LaidTab
import Derived.Test.YtfefngngejlmhaaDoorC4
set_option linter.unusedVariables false
set_option linter.unusedSimpArgs false
namespace Hw
open Go Go.Proofs
theorem iface_cell {P : Program} {W : World} {name nm : String} {d : DataW Unit} {rest : List (String × DataW Unit)} {g : Nat} {t : TypeId} {ms : Array (String × TypeId)}
    (hg : P.globalNamed name = some g) (hty : (P.globals[g]?).map (·.type) = some t) (ht : P.underlying t = some (.interface ms)) (h : laidMet P ((name, .iface nm d) :: rest) W) : ∃ u v, memOf W g 0 = some (.iface u v) := by
  obtain ⟨ps, ⟨g', t', cs, fuel, p, q, hg', ht', hvar, hd, _, _⟩, _⟩ := h
  obtain rfl := Option.some.inj (hg.symm.trans hg')
  obtain rfl := Option.some.inj (hty.symm.trans ht')
  have hc := World.var?_cell hg hvar 0
  unfold memOf
  rw [hc]
  cases fuel with
  | zero => simp [DataW.trod] at hd
  | succ fuel =>
    rw [← Array.getElem?_toList]
    generalize cs.toList = l at hd
    match l, hd with
    | [], hd => simp [DataW.trod, ht] at hd
    | v :: w :: r, hd => simp [DataW.trod, ht] at hd
    | [v], hd =>
      cases v with
      | iface u x => exact ⟨u, x, rfl⟩
      | _ => simp [DataW.trod, ht] at hd
end Hw
namespace Hw.L
open Go Go.Proofs Hw.M

/-! the readings of a place and of a token -/
section
variable {H : Type} {enc : TypeId × Value → H} {w : World} {base : Nat} {spare : Nat → Bool} {held : Bool}
theorem rd_pos (n : Nat) : Rd enc Tryd.prog w base spare held n 25 (fun p : Int × Int => [ki p.1, ki p.2]) := by
  intro cs x h
  obtain ⟨m, rfl, c0, r0, x0, rfl, h0, c1, r1, x1, rfl, h1, rfl⟩ := trod_pieces (l := [(3, 1), (3, 1)]) (by kernel_rfl) h
  obtain ⟨a0, k0⟩ := rd_int (by kernel_rfl) c0 x0 h0
  obtain ⟨a1, k1⟩ := rd_int (by kernel_rfl) c1 x1 h1
  refine ⟨(a0, a1), ?_⟩
  exact (k0.app (k1.app (show CellsM (memOf w) [] [] from trivial)))
theorem rd_tok (n : Nat) : Rd enc Tryd.prog w base spare held n 33 tokR := by
  intro cs x h
  obtain ⟨m, rfl, c0, r0, x0, rfl, h0, c1, r1, x1, rfl, h1, c2, r2, x2, rfl, h2, c3, r3, x3, rfl, h3, rfl⟩ := trod_pieces (l := [(3, 1), (9, 1), (3, 1), (25, 2)]) (by kernel_rfl) h
  obtain ⟨a0, k0⟩ := rd_int (by kernel_rfl) c0 x0 h0
  obtain ⟨a1, k1⟩ := rd_str (by kernel_rfl) c1 x1 h1
  obtain ⟨a2, k2⟩ := rd_int (by kernel_rfl) c2 x2 h2
  obtain ⟨a3, k3⟩ := rd_pos m c3 x3 h3
  refine ⟨⟨a0, a1, a2, a3.1, a3.2⟩, ?_⟩
  exact (k0.app (k1.app (k2.app (k3.app (show CellsM (memOf w) [] [] from trivial)))))
end
end Hw.L
