/- The engine and the contracts. -/
import Derived.Test.YtmnhegkogibipaaGreatDoorC11
set_option linter.unusedVariables false
set_option linter.unusedSimpArgs false
namespace Hw.Z
open Go Go.Proofs Hw.M

def sameT (a b : NodeT) : Bool := decide (a.n = b.n) && eqL sameF a.f b.f
def sameP (a b : Pr) : Bool := decide (a.n = b.n) && decide (a.res = b.res) && eqL sameF a.params b.params && eqL sameF a.locs b.locs && eqL sameS a.body b.body
def sameM (a b : Ms) : Bool := decide (a.n = b.n) && decide (a.t = b.t) && decide (a.z = b.z) && sameE a.x b.x
def sameI (a b : Iv) : Bool := decide (a.n = b.n) && decide (a.t = b.t) && sameE a.x b.x
def sameO (a b : Pt) : Bool := decide (a.t = b.t) && sameE a.x b.x
def sameB (a b : Bd) : Bool := decide (a.p = b.p) && sameE a.x b.x
def sameD (a b : Desc) : Bool := decide (a.n = b.n) && eqL sameF a.globals b.globals && eqL sameT a.types b.types && eqL sameP a.procs b.procs && eqL sameM a.measures b.measures && eqL sameI a.invs b.invs && eqL sameO a.pots b.pots && eqL sameB a.bounds b.bounds
end Hw.Z
