/- The seat's tables of types. -/
import Derived.Test.YtnijeifpjjeccaaGreatDoorProg
import Derived.Test.YtnijeifpjjeccaaGreatDoorE2
import Derived.KernelRfl
import Derived.Shelf.Sort.Plain
import Derived.Shelf.SlicesE.Delete
import Derived.Shelf.SlicesE.Reverse
import Derived.Test.YtnijeifpjjeccaaGreatDoorE3
import Derived.Test.YtnijeifpjjeccaaGreatDoorC3
import Derived.Test.YtnijeifpjjeccaaGreatDoorC2
import Derived.Test.YtnijeifpjjeccaaGreatDoorC1
set_option linter.unusedVariables false
set_option linter.unusedSimpArgs false
namespace Hw.Mq
open Go Go.Proofs
def tabs : Tabs :=
{ sh := (.nd (.nd (.nd (.nd (.nd (.nd .lf 2 none .lf) 3 none (.nd .lf 4 none .lf)) 5 none (.nd (.nd .lf 9 none .lf) 20 none .lf)) 21 none (.nd (.nd (.nd .lf 22 none .lf) 24 (some 2) .lf) 27 none (.nd (.nd .lf 39 none .lf) 41 (some 2) .lf))) 44 none (.nd (.nd (.nd (.nd .lf 48 none .lf) 52 (some 3) .lf) 54 none (.nd (.nd .lf 55 none .lf) 56 none .lf)) 58 (some 2) (.nd (.nd (.nd .lf 60 none .lf) 64 (some 3) .lf) 65 none (.nd (.nd .lf 69 none .lf) 72 none .lf)))) 75 none (.nd (.nd (.nd (.nd (.nd .lf 84 none .lf) 91 none .lf) 99 none (.nd (.nd .lf 104 none .lf) 115 (some 24) .lf)) 116 none (.nd (.nd (.nd .lf 127 none .lf) 130 (some 3) .lf) 139 none (.nd (.nd .lf 141 (some 20) .lf) 142 none .lf))) 143 (some 65) (.nd (.nd (.nd (.nd .lf 146 none .lf) 148 (some 1) .lf) 150 none (.nd (.nd .lf 159 (some 256) .lf) 161 (some 2) .lf)) 162 (some 32) (.nd (.nd (.nd .lf 165 none .lf) 169 none .lf) 171 (some 32) (.nd (.nd .lf 172 (some 64) .lf) 173 none .lf)))))
  fo := (.nd (.nd (.nd (.nd .lf 24 (.nd (.nd .lf 0 0 .lf) 1 1 .lf) .lf) 41 (.nd (.nd .lf 0 0 .lf) 1 1 .lf) .lf) 52 (.nd (.nd .lf 0 0 .lf) 1 1 (.nd .lf 2 2 .lf)) (.nd .lf 58 (.nd (.nd .lf 0 0 .lf) 1 1 .lf) .lf)) 64 (.nd (.nd .lf 0 0 .lf) 1 1 (.nd .lf 2 2 .lf)) (.nd (.nd .lf 130 (.nd (.nd .lf 0 0 .lf) 1 1 (.nd .lf 2 2 .lf)) .lf) 148 (.nd .lf 0 0 .lf) (.nd .lf 161 (.nd (.nd .lf 0 0 .lf) 1 1 .lf) .lf)))
  es := (.nd (.nd (.nd .lf 22 (3, 1) .lf) 39 (22, 1) (.nd .lf 44 (52, 3) .lf)) 48 (24, 2) (.nd (.nd .lf 56 (5, 1) .lf) 65 (64, 3) (.nd .lf 69 (9, 1) .lf)))
  zs := (.nd (.nd (.nd (.nd (.nd (.nd .lf 2 [(.int .i64)] .lf) 3 [(.int .i64)] .lf) 4 [.bool] (.nd (.nd .lf 5 [(.int .u8)] .lf) 9 [.str] .lf)) 20 [.nif] (.nd (.nd (.nd .lf 21 [(.int .i32)] .lf) 22 [.slice] .lf) 24 [(.int .i64), .slice] (.nd (.nd .lf 27 [(.int .i64)] .lf) 39 [.slice] .lf))) 41 [(.int .i64), .slice] (.nd (.nd (.nd (.nd .lf 44 [.slice] .lf) 48 [.slice] .lf) 52 [(.int .i64), (.int .i64), .slice] (.nd (.nd .lf 54 [.nfunc] .lf) 55 [.ptr] .lf)) 56 [.slice] (.nd (.nd (.nd .lf 60 [.nif] .lf) 64 [.str, (.int .i64), .bool] .lf) 65 [.slice] (.nd .lf 69 [.slice] .lf)))) 72 [.nfunc] (.nd (.nd (.nd (.nd (.nd .lf 75 [.nfunc] .lf) 84 [.ptr] .lf) 91 [.ptr] (.nd (.nd .lf 99 [.ptr] .lf) 104 [.nfunc] .lf)) 115 [(.int .u8), (.int .u8), (.int .u8), (.int .u8), (.int .u8), (.int .u8), (.int .u8), (.int .u8), (.int .u8), (.int .u8), (.int .u8), (.int .u8), (.int .u8), (.int .u8), (.int .u8), (.int .u8), (.int .u8), (.int .u8), (.int .u8), (.int .u8), (.int .u8), (.int .u8), (.int .u8), (.int .u8)] (.nd (.nd (.nd .lf 116 [(.int .u64)] .lf) 127 [(.int .u64)] .lf) 130 [.str, .str, .nif] (.nd .lf 139 [.nfunc] .lf))) 141 [(.int .u64), (.int .u64), (.int .u64), (.int .u64), (.int .u64), (.int .u64), (.int .u64), (.int .u64), (.int .u64), (.int .u64), (.int .u64), (.int .u64), (.int .u64), (.int .u64), (.int .u64), (.int .u64), (.int .u64), (.int .u64), (.int .u64), (.int .u64)] (.nd (.nd (.nd (.nd .lf 142 [(.int .u32)] .lf) 146 [.ptr] .lf) 148 [.str] (.nd (.nd .lf 150 [(.int .i64)] .lf) 161 [(.int .u8), (.int .u8)] .lf)) 162 [(.int .u8), (.int .u8), (.int .u8), (.int .u8), (.int .u8), (.int .u8), (.int .u8), (.int .u8), (.int .u8), (.int .u8), (.int .u8), (.int .u8), (.int .u8), (.int .u8), (.int .u8), (.int .u8), (.int .u8), (.int .u8), (.int .u8), (.int .u8), (.int .u8), (.int .u8), (.int .u8), (.int .u8), (.int .u8), (.int .u8), (.int .u8), (.int .u8), (.int .u8), (.int .u8), (.int .u8), (.int .u8)] (.nd (.nd (.nd .lf 165 [(.int .u64)] .lf) 169 [.ptr] .lf) 171 [(.int .u8), (.int .u8), (.int .u8), (.int .u8), (.int .u8), (.int .u8), (.int .u8), (.int .u8), (.int .u8), (.int .u8), (.int .u8), (.int .u8), (.int .u8), (.int .u8), (.int .u8), (.int .u8), (.int .u8), (.int .u8), (.int .u8), (.int .u8), (.int .u8), (.int .u8), (.int .u8), (.int .u8), (.int .u8), (.int .u8), (.int .u8), (.int .u8), (.int .u8), (.int .u8), (.int .u8), (.int .u8)] (.nd .lf 173 [.ptr] .lf)))))
  pl := (.nd (.nd (.nd (.nd .lf 24 [(0, 1), (1, 1)] .lf) 41 [(0, 1), (1, 1)] .lf) 52 [(0, 1), (1, 1), (2, 1)] (.nd .lf 58 [(0, 1), (1, 1)] .lf)) 64 [(0, 1), (1, 1), (2, 1)] (.nd (.nd .lf 130 [(0, 1), (1, 1), (2, 1)] .lf) 148 [(0, 1)] (.nd .lf 161 [(0, 1), (1, 1)] .lf)))
  str := (.nd .lf 9 () .lf)
  ik := (.nd (.nd (.nd (.nd .lf 2 .i64 .lf) 3 .i64 .lf) 5 .u8 (.nd (.nd .lf 21 .i32 .lf) 27 .i64 .lf)) 116 .u64 (.nd (.nd (.nd .lf 127 .u64 .lf) 142 .u32 .lf) 150 .i64 (.nd .lf 165 .u64 .lf))) }
theorem tabs_ok : tabs.check Tryz.prog = true := by kernel_rfl
theorem mixed : Tryz.prog.follows .mixedOrders = true := by kernel_rfl
noncomputable def T : Ty Tryz.prog := tabs.ty tabs_ok mixed
end Hw.Mq
/- The library's functions at this program: their numbers. -/
namespace Hw.Mq
open Go Go.Proofs Go.Shelf
def laysSort_ren : Go.Shelf.Ren := ⟨fun | 189 => 74 | 125 => 97 | 257 => 96 | 128 => 127 | 129 => 106 | 294 => 118 | 295 => 119 | 296 => 120 | 297 => 121 | 298 => 122 | 299 => 123 | 216 => 124 | 300 => 125 | 301 => 126 | 328 => 134 | 329 => 135 | 330 => 136 | 331 => 137 | 332 => 138 | 215 => 117 | 343 => 139 | n => n, fun | 28 => 22 | 3 => 3 | 46 => 127 | 0 => 0 | 51 => 142 | 53 => 116 | 4 => 4 | 183 => 151 | 182 => 150 | 131 => 108 | 5 => 5 | 9 => 9 | 218 => 165 | 222 => 169 | 228 => 173 | 229 => 102 | n => n, fun | n => n⟩
theorem laysSort : Go.Proofs.Lays.n189 Tryz.prog laysSort_ren where
  mixed := by kernel_rfl
  f125 := Tryz.func97.trans (congrArg some (by kernel_rfl))
  f128 := Tryz.func127.trans (congrArg some (by kernel_rfl))
  f129 := Tryz.func106.trans (congrArg some (by kernel_rfl))
  f189 := Tryz.func74.trans (congrArg some (by kernel_rfl))
  f215 := Tryz.func117.trans (congrArg some (by kernel_rfl))
  f216 := Tryz.func124.trans (congrArg some (by kernel_rfl))
  f257 := Tryz.func96.trans (congrArg some (by kernel_rfl))
  f294 := Tryz.func118.trans (congrArg some (by kernel_rfl))
  f295 := Tryz.func119.trans (congrArg some (by kernel_rfl))
  f296 := Tryz.func120.trans (congrArg some (by kernel_rfl))
  f297 := Tryz.func121.trans (congrArg some (by kernel_rfl))
  f298 := Tryz.func122.trans (congrArg some (by kernel_rfl))
  f299 := Tryz.func123.trans (congrArg some (by kernel_rfl))
  f300 := Tryz.func125.trans (congrArg some (by kernel_rfl))
  f301 := Tryz.func126.trans (congrArg some (by kernel_rfl))
  f328 := Tryz.func134.trans (congrArg some (by kernel_rfl))
  f329 := Tryz.func135.trans (congrArg some (by kernel_rfl))
  f330 := Tryz.func136.trans (congrArg some (by kernel_rfl))
  f331 := Tryz.func137.trans (congrArg some (by kernel_rfl))
  f332 := Tryz.func138.trans (congrArg some (by kernel_rfl))
  f343 := Tryz.func139.trans (congrArg some (by kernel_rfl))
  t0 := Tryz.underlying0
  a0 := Tryz.isAgg0
  z0 := Tryz.sizeOf0
  v0 := Tryz.zeroValue0
  t3 := Tryz.underlying3
  a3 := Tryz.isAgg3
  z3 := Tryz.sizeOf3
  v3 := Tryz.zeroValue3
  t4 := Tryz.underlying4
  a4 := Tryz.isAgg4
  z4 := Tryz.sizeOf4
  v4 := Tryz.zeroValue4
  t5 := Tryz.underlying5
  a5 := Tryz.isAgg5
  z5 := Tryz.sizeOf5
  v5 := Tryz.zeroValue5
  t9 := Tryz.underlying9
  a9 := Tryz.isAgg9
  z9 := Tryz.sizeOf9
  v9 := Tryz.zeroValue9
  t28 := Tryz.underlying22
  a28 := Tryz.isAgg22
  z28 := Tryz.sizeOf22
  v28 := Tryz.zeroValue22
  t46 := Tryz.underlying127
  a46 := Tryz.isAgg127
  z46 := Tryz.sizeOf127
  v46 := Tryz.zeroValue127
  t51 := Tryz.underlying142
  a51 := Tryz.isAgg142
  z51 := Tryz.sizeOf142
  v51 := Tryz.zeroValue142
  t53 := Tryz.underlying116
  a53 := Tryz.isAgg116
  z53 := Tryz.sizeOf116
  v53 := Tryz.zeroValue116
  t131 := Tryz.underlying108
  a131 := Tryz.isAgg108
  z131 := Tryz.sizeOf108
  v131 := Tryz.zeroValue108
  t182 := Tryz.underlying150
  a182 := Tryz.isAgg150
  z182 := Tryz.sizeOf150
  v182 := Tryz.zeroValue150
  t183 := Tryz.underlying151
  a183 := Tryz.isAgg151
  z183 := Tryz.sizeOf151
  v183 := Tryz.zeroValue151
  t218 := Tryz.underlying165
  a218 := Tryz.isAgg165
  z218 := Tryz.sizeOf165
  v218 := Tryz.zeroValue165
  t222 := Tryz.underlying169
  a222 := Tryz.isAgg169
  z222 := Tryz.sizeOf169
  v222 := Tryz.zeroValue169
  t228 := Tryz.underlying173
  a228 := Tryz.isAgg173
  z228 := Tryz.sizeOf173
  v228 := Tryz.zeroValue173
  t229 := Tryz.underlying102
  a229 := Tryz.isAgg102
  z229 := Tryz.sizeOf102
  v229 := Tryz.zeroValue102
end Hw.Mq
/- The library's functions at this program: their numbers. -/
namespace Hw.Mq
open Go Go.Proofs Go.Shelf
def laysDel_ren : Go.Shelf.Ren := ⟨fun | 45 => 79 | n => n, fun | 22 => 39 | 23 => 22 | 3 => 3 | 4 => 4 | 0 => 0 | n => n, fun | n => n⟩
theorem laysDel : Go.Proofs.SlLaysE.n45 Tryz.prog laysDel_ren where
  mixed := by kernel_rfl
  f45 := ⟨"slices.Delete[[][]int,[]int]", by decide, Tryz.func79.trans (congrArg some (by kernel_rfl))⟩
  t0 := Tryz.underlying0
  a0 := Tryz.isAgg0
  z0 := Tryz.sizeOf0
  v0 := Tryz.zeroValue0
  t3 := Tryz.underlying3
  a3 := Tryz.isAgg3
  z3 := Tryz.sizeOf3
  v3 := Tryz.zeroValue3
  t4 := Tryz.underlying4
  a4 := Tryz.isAgg4
  z4 := Tryz.sizeOf4
  v4 := Tryz.zeroValue4
  t22 := Tryz.underlying39
  a22 := Tryz.isAgg39
  z22 := Tryz.sizeOf39
  v22 := Tryz.zeroValue39
  a23 := Tryz.isAgg22
  z23 := Tryz.sizeOf22
def laysRev_ren : Go.Shelf.Ren := ⟨fun | 35 => 80 | n => n, fun | 22 => 39 | 23 => 22 | 3 => 3 | 4 => 4 | 0 => 0 | n => n, fun | n => n⟩
theorem laysRev : Go.Proofs.SlLaysE.n35 Tryz.prog laysRev_ren where
  mixed := by kernel_rfl
  f35 := ⟨"slices.Reverse[[][]int,[]int]", by decide, Tryz.func80.trans (congrArg some (by kernel_rfl))⟩
  t0 := Tryz.underlying0
  a0 := Tryz.isAgg0
  z0 := Tryz.sizeOf0
  v0 := Tryz.zeroValue0
  t3 := Tryz.underlying3
  a3 := Tryz.isAgg3
  z3 := Tryz.sizeOf3
  v3 := Tryz.zeroValue3
  t4 := Tryz.underlying4
  a4 := Tryz.isAgg4
  z4 := Tryz.sizeOf4
  v4 := Tryz.zeroValue4
  t22 := Tryz.underlying39
  a22 := Tryz.isAgg39
  z22 := Tryz.sizeOf39
  v22 := Tryz.zeroValue39
  a23 := Tryz.isAgg22
  z23 := Tryz.sizeOf22
end Hw.Mq
namespace Hw.Mq
open Go Go.Proofs Hw.M

/-! models of abstract data types: plain data and what the operations do -/
abbrev Rw := List Int
abbrev Rws := List (List Int)
structure OpT where
  code : Int
  args : List Int
structure RsT where
  e : Int
  n : Int
  deriving DecidableEq
def opR (o : OpT) : List PV := [ki o.code, intsP o.args]
def rsR (r : RsT) : List PV := [ki r.e, ki r.n, .k (.slice none 0 0)]
def rowR (r : Rw) : List PV := [intsP r]
def rowsP (R : Rws) : PV := .sl 1 (R.map rowR)
def stR (k : Int) (R : Rws) : List PV := [ki k, rowsP R]
def opsP (l : List OpT) : PV := .sl 2 (l.map opR)
def rssP (l : List RsT) : PV := .sl 3 (l.map rsR)
def okR (n : Int) : RsT := ⟨0, n⟩
def erR (e : Int) : RsT := ⟨e, 0⟩
/-- The i-th number, or 0. -/
def at0 (l : List Int) (i : Nat) : Int := (l[i]?).getD 0
theorem at0_of {l : List Int} {i : Nat} {x : Int} (h : l[i]? = some x) : at0 l i = x := by unfold at0; rw [h]; rfl
theorem at0_lt {l : List Int} {i : Nat} (h : i < l.length) : l[i]? = some (at0 l i) := by unfold at0; rw [List.getElem?_eq_getElem h]; rfl
def rowA (R : Rws) (i : Nat) : Rw := (R[i]?).getD []
theorem rowA_of {R : Rws} {i : Nat} {r : Rw} (h : R[i]? = some r) : rowA R i = r := by unfold rowA; rw [h]; rfl
theorem rowA_lt {R : Rws} {i : Nat} (h : i < R.length) : R[i]? = some (rowA R i) := by unfold rowA; rw [List.getElem?_eq_getElem h]; rfl

/-! numbers, characters, words -/
def numB (n : Int) : Bool := decide (-1048576 ≤ n) && decide (n ≤ 1048576)
def chrB (n : Int) : Bool := decide (0 ≤ n) && decide (n ≤ 255)
/-- Of each operation of a kind: the word, the number of its arguments (-1: characters), whether it is an update. -/
def wordsL (k : Int) : List (Str × Int × Bool) :=
  if k = 1 then [((⟨#[112, 117, 116]⟩ : ByteArray), 2, true), ((⟨#[103, 101, 116]⟩ : ByteArray), 1, false), ((⟨#[114, 101, 109, 111, 118, 101]⟩ : ByteArray), 1, true), ((⟨#[102, 108, 111, 111, 114]⟩ : ByteArray), 1, false), ((⟨#[99, 101, 105, 108, 105, 110, 103]⟩ : ByteArray), 1, false), ((⟨#[114, 97, 110, 107]⟩ : ByteArray), 1, false), ((⟨#[115, 101, 108, 101, 99, 116]⟩ : ByteArray), 1, false), ((⟨#[115, 105, 122, 101]⟩ : ByteArray), 0, false)]
  else if k = 2 then [((⟨#[105, 110, 115, 101, 114, 116]⟩ : ByteArray), 1, true), ((⟨#[109, 105, 110]⟩ : ByteArray), 0, false), ((⟨#[100, 101, 108, 101, 116, 101, 109, 105, 110]⟩ : ByteArray), 0, true), ((⟨#[115, 105, 122, 101]⟩ : ByteArray), 0, false)]
  else if k = 3 then [((⟨#[105, 110, 115, 101, 114, 116]⟩ : ByteArray), 2, true), ((⟨#[114, 101, 109, 111, 118, 101]⟩ : ByteArray), 1, true), ((⟨#[103, 101, 116]⟩ : ByteArray), 1, false), ((⟨#[115, 101, 116]⟩ : ByteArray), 2, true), ((⟨#[115, 117, 109]⟩ : ByteArray), 2, false), ((⟨#[114, 101, 118, 101, 114, 115, 101]⟩ : ByteArray), 2, true), ((⟨#[115, 105, 122, 101]⟩ : ByteArray), 0, false)]
  else if k = 4 then [((⟨#[109, 97, 107, 101]⟩ : ByteArray), 0, true), ((⟨#[117, 110, 105, 111, 110]⟩ : ByteArray), 2, true), ((⟨#[115, 97, 109, 101]⟩ : ByteArray), 2, false), ((⟨#[115, 105, 122, 101]⟩ : ByteArray), 1, false), ((⟨#[99, 111, 117, 110, 116]⟩ : ByteArray), 0, false)]
  else if k = 5 then [((⟨#[97, 100, 100]⟩ : ByteArray), 3, true), ((⟨#[114, 101, 109, 111, 118, 101]⟩ : ByteArray), 2, true), ((⟨#[99, 111, 117, 110, 116]⟩ : ByteArray), 4, false), ((⟨#[115, 117, 109]⟩ : ByteArray), 4, false), ((⟨#[115, 105, 122, 101]⟩ : ByteArray), 0, false)]
  else if k = 6 then [((⟨#[97, 112, 112, 101, 110, 100]⟩ : ByteArray), -1, true), ((⟨#[99, 111, 117, 110, 116]⟩ : ByteArray), -1, false), ((⟨#[102, 105, 110, 100]⟩ : ByteArray), -1, false), ((⟨#[115, 105, 122, 101]⟩ : ByteArray), 0, false)]
  else []
def wordR (w : Str × Int × Bool) : List PV := [ks w.1, ki w.2.1, .k (.bool w.2.2)]
/-- P3.1 of operations -/
def okOp (k : Int) (o : OpT) : Bool := decide (1 ≤ o.code) && match (wordsL k)[(o.code - 1).toNat]? with
  | none => false
  | some w => if w.2.1 < 0 then decide (1 ≤ o.args.length) && decide (o.args.length ≤ 64) && o.args.all chrB else decide ((o.args.length : Int) = w.2.1) && o.args.all numB

/-! P3.1 of states -/
/-- The first columns of a row come before those of another one. -/
def ltC : Nat → Rw → Rw → Bool
  | 0, _, _ => false
  | c + 1, a :: r, b :: s => if a = b then ltC c r s else decide (a < b)
  | _, _, _ => false
def ascB (p : Rw → Rw → Bool) : Rws → Bool
  | a :: b :: r => p a b && ascB p (b :: r)
  | _ => true
/-- Each row's width, its numbers, and how it stands to the next one. -/
def tableB (w : Nat) (p : Rw → Rw → Bool) (R : Rws) : Bool := R.all (fun r => decide (r.length = w) && r.all numB) && ascB p R
def ascI (l : List Int) : Bool := match l with
  | a :: b :: r => decide (a < b) && ascI (b :: r)
  | _ => true
def setsB (R : Rws) : Bool := decide (R.flatten.length ≤ 500) && R.all (fun r => !decide (r = []) && ascI r) && ascB (fun a b => decide (at0 a 0 < at0 b 0)) R
  && R.flatten.all (fun x => decide (0 ≤ x) && decide (x < R.flatten.length)) && decide R.flatten.Nodup
def textB (R : Rws) : Bool := match R with
  | [] => true
  | [r] => decide (1 ≤ r.length) && decide (r.length ≤ 500) && r.all chrB
  | _ => false
def validS (k : Int) (R : Rws) : Bool := decide (R.length ≤ 500) &&
  if k = 1 then tableB 2 (ltC 1) R else if k = 2 then tableB 1 (fun a b => !ltC 1 b a) R else if k = 3 then tableB 1 (fun _ _ => true) R
  else if k = 4 then setsB R else if k = 5 then tableB 3 (ltC 2) R else if k = 6 then textB R else false

/-! P3.3 -/
/-- Where a row with these first columns stands, or would stand. -/
def posC (c : Nat) (R : Rws) (a : Rw) : Nat := (R.takeWhile fun r => ltC c r a).length
def hasC (c : Nat) (R : Rws) (a : Rw) : Bool := match R[posC c R a]? with
  | some r => decide (r.take c = a.take c)
  | none => false
def insR (R : Rws) (i : Nat) (x : Rw) : Rws := R.take i ++ x :: R.drop i
def dictS (R : Rws) (o : OpT) : Rws × RsT :=
  if o.code = 8 then (R, okR R.length)
  else if o.code = 7 then (if 0 ≤ at0 o.args 0 ∧ at0 o.args 0 < R.length then (R, okR (at0 (rowA R (at0 o.args 0).toNat) 0)) else (R, erR 2))
  else
    let i := posC 1 R o.args
    let ok := hasC 1 R o.args
    if o.code = 1 then (if ok = true then (R.set i ((rowA R i).set 1 (at0 o.args 1)), okR 1) else if R.length = 500 then (R, erR 4) else (insR R i o.args, okR 0))
    else if o.code = 6 then (R, okR i)
    else if o.code = 4 then (if ok = true then (R, okR (at0 o.args 0)) else if i = 0 then (R, erR 12) else (R, okR (at0 (rowA R (i - 1)) 0)))
    else if o.code = 5 then (if i = R.length then (R, erR 12) else (R, okR (at0 (rowA R i) 0)))
    else if ok = true then (if o.code = 3 then R.eraseIdx i else R, okR (at0 (rowA R i) 1)) else (R, erR 12)
def heapS (R : Rws) (o : OpT) : Rws × RsT :=
  if o.code = 4 then (R, okR R.length)
  else if o.code = 1 then (if R.length = 500 then (R, erR 4) else (insR R (posC 1 R o.args) o.args, okR 0))
  else if R.length = 0 then (R, erR 14) else (if o.code = 3 then R.eraseIdx 0 else R, okR (at0 (rowA R 0) 0))
def sum0 (R : Rws) : Int := (R.map fun r => at0 r 0).sum
def revR (R : Rws) (a b : Nat) : Rws := R.take a ++ ((R.take b).drop a).reverse ++ R.drop b
def seqS (R : Rws) (o : OpT) : Rws × RsT :=
  let a := at0 o.args 0
  let b := at0 o.args 1
  if o.code = 7 then (R, okR R.length)
  else if o.code = 5 ∨ o.code = 6 then
    (if a < 0 ∨ b < a ∨ (R.length : Int) < b then (R, erR 2) else if o.code = 6 then (revR R a.toNat b.toNat, okR 0) else (R, okR (sum0 ((R.take b.toNat).drop a.toNat))))
  else if o.code = 1 then (if a < 0 ∨ (R.length : Int) < a then (R, erR 2) else if R.length = 500 then (R, erR 4) else (insR R a.toNat [b], okR 0))
  else if a < 0 ∨ (R.length : Int) ≤ a then (R, erR 2)
  else (if o.code = 2 then R.eraseIdx a.toNat else if o.code = 4 then R.set a.toNat ((rowA R a.toNat).set 0 b) else R, okR (at0 (rowA R a.toNat) 0))
/-- The row with an element, from the k-th one on; -1: none. -/
def clsI (x : Int) : Rws → Nat → Int
  | [], _ => -1
  | r :: R, k => if x ∈ r then k else clsI x R (k + 1)
def mergeI : List Int → List Int → List Int
  | [], b => b
  | a, [] => a
  | x :: a, y :: b => if x < y then x :: mergeI a (y :: b) else y :: mergeI (x :: a) b
termination_by a b => a.length + b.length
def setsS (R : Rws) (o : OpT) : Rws × RsT :=
  if o.code = 5 then (R, okR R.length)
  else if o.code = 1 then (if R.flatten.length = 500 then (R, erR 4) else (R ++ [[(R.flatten.length : Int)]], okR R.flatten.length))
  else
    let a := clsI (at0 o.args 0) R 0
    if o.code = 4 then (if a < 0 then (R, erR 12) else (R, okR (rowA R a.toNat).length))
    else
      let b := clsI (at0 o.args 1) R 0
      if a < 0 ∨ b < 0 then (R, erR 12) else if o.code = 3 then (R, okR (if a = b then 1 else 0)) else if a = b then (R, okR 0)
      else ((R.set (min a b).toNat (mergeI (rowA R a.toNat) (rowA R b.toNat))).eraseIdx (max a b).toNat, okR 1)
def inBox (a r : Rw) : Bool := decide (at0 a 0 ≤ at0 r 0) && decide (at0 r 0 ≤ at0 a 1) && decide (at0 a 2 ≤ at0 r 1) && decide (at0 r 1 ≤ at0 a 3)
def pointsS (R : Rws) (o : OpT) : Rws × RsT :=
  if o.code = 5 then (R, okR R.length)
  else if o.code = 3 then (R, okR (R.filter (inBox o.args)).length)
  else if o.code = 4 then (R, okR (((R.filter (inBox o.args)).map fun r => at0 r 2).sum))
  else
    let i := posC 2 R o.args
    let ok := hasC 2 R o.args
    if o.code = 1 then (if ok = true then (R, erR 15) else if R.length = 500 then (R, erR 4) else (insR R i o.args, okR 0))
    else if ok = true then (R.eraseIdx i, okR (at0 (rowA R i) 2)) else (R, erR 12)
/-- The places of the characters p in l, from the k-th one on: how many, and the first. -/
def occL (l p : List Int) (k : Nat) : Bool := decide (((l.drop k).take p.length) = p)
def occs (l p : List Int) : List Nat := (List.range l.length).filter (occL l p)
def textS (R : Rws) (o : OpT) : Rws × RsT :=
  let s := rowA R 0
  if o.code = 4 then (R, okR s.length)
  else if o.code = 1 then (if 500 < s.length + o.args.length then (R, erR 4) else ([s ++ o.args], okR 0))
  else if o.code = 2 then (R, okR (occs s o.args).length)
  else match (occs s o.args).head? with
    | some i => (R, okR i)
    | none => (R, erR 12)
def stepS (k : Int) (R : Rws) (o : OpT) : Rws × RsT :=
  if k = 1 then dictS R o else if k = 2 then heapS R o else if k = 3 then seqS R o else if k = 4 then setsS R o else if k = 5 then pointsS R o else textS R o
def runS (k : Int) : Rws → List OpT → Rws × List RsT
  | R, [] => (R, [])
  | R, o :: l => ((runS k (stepS k R o).1 l).1, (stepS k R o).2 :: (runS k (stepS k R o).1 l).2)
end Hw.Mq
namespace Hw.Mq
open Go Go.Proofs Hw.M

/-! models: plain laws of the order of rows -/
def cmpI : List Int → List Int → Int
  | [], [] => 0
  | [], _ :: _ => -1
  | _ :: _, [] => 1
  | a :: r, b :: s => if a < b then -1 else if b < a then 1 else cmpI r s
theorem cmp_lt : ∀ (c : Nat) (r a : Rw), c ≤ r.length → c ≤ a.length → (cmpI (r.take c) (a.take c) < 0 ↔ ltC c r a = true) ∧ (cmpI (r.take c) (a.take c) = 0 ↔ r.take c = a.take c)
  | 0, r, a, _, _ => by simp [cmpI, ltC]
  | c + 1, [], a, h, _ => by simp at h
  | c + 1, x :: r, [], _, h => by simp at h
  | c + 1, x :: r, y :: a, h1, h2 => by
    have ih := cmp_lt c r a (by simpa using h1) (by simpa using h2)
    simp only [List.take_succ_cons, cmpI, ltC]
    by_cases hlt : x < y
    · rw [if_pos hlt, if_neg (by omega), decide_eq_true hlt]
      refine ⟨by decide, ⟨(fun h => by cases h), fun h => ?_⟩⟩
      have := (List.cons.inj h).1; omega
    · rw [if_neg hlt]
      by_cases hgt : y < x
      · rw [if_pos hgt, if_neg (by omega), decide_eq_false hlt]
        refine ⟨⟨(fun h => absurd h (by decide)), (fun h => by cases h)⟩, ⟨(fun h => by cases h), fun h => ?_⟩⟩
        have := (List.cons.inj h).1; omega
      · obtain rfl : x = y := by omega
        rw [if_neg hgt, if_pos rfl]
        refine ⟨ih.1, ih.2.trans ⟨fun h => by rw [h], fun h => (List.cons.inj h).2⟩⟩
theorem ltC_trans : ∀ (c : Nat) {a b d : Rw}, ltC c a b = true → ltC c b d = true → ltC c a d = true
  | 0, _, _, _, h, _ => by simp [ltC] at h
  | c + 1, [], _, _, h, _ => by simp [ltC] at h
  | c + 1, _ :: _, [], _, h, _ => by simp [ltC] at h
  | c + 1, _ :: _, _ :: _, [], _, h => by simp [ltC] at h
  | c + 1, x :: a, y :: b, z :: d, h, h2 => by
    simp only [ltC] at h h2 ⊢
    by_cases e1 : x = y
    · subst e1
      rw [if_pos rfl] at h
      by_cases e2 : x = z
      · rw [if_pos e2] at h2 ⊢; exact ltC_trans c h h2
      · rw [if_neg e2] at h2 ⊢; exact h2
    · rw [if_neg e1, decide_eq_true_eq] at h
      by_cases e2 : y = z
      · subst e2; rw [if_neg e1]; exact decide_eq_true h
      · rw [if_neg e2, decide_eq_true_eq] at h2
        rw [if_neg (by omega)]; exact decide_eq_true (by omega)
theorem ltC_irr : ∀ (c : Nat) (a : Rw), ltC c a a = false
  | 0, _ => rfl
  | c + 1, [] => rfl
  | c + 1, x :: a => by simp only [ltC, if_true]; exact ltC_irr c a
/-- Of rows that are wide enough: before, after, or the same. -/
theorem ltC_tri : ∀ (c : Nat) {a b : Rw}, c ≤ a.length → c ≤ b.length → ltC c a b = false → a.take c ≠ b.take c → ltC c b a = true
  | 0, _, _, _, _, _, h => absurd (by simp) h
  | c + 1, [], _, h, _, _, _ => by simp at h
  | c + 1, _ :: _, [], _, h, _, _ => by simp at h
  | c + 1, x :: a, y :: b, h1, h2, h, hn => by
    simp only [ltC] at h ⊢
    by_cases e : x = y
    · subst e
      rw [if_pos rfl] at h ⊢
      exact ltC_tri c (by simpa using h1) (by simpa using h2) h fun e => hn (by simp [e])
    · rw [if_neg e] at h
      rw [if_neg fun e' => e e'.symm]
      have := of_decide_eq_false h
      exact decide_eq_true (by omega)
theorem ltC_take : ∀ (c : Nat) (a b d : Rw), a.take c = b.take c → c ≤ a.length → c ≤ b.length → ltC c a d = ltC c b d
  | 0, _, _, _, _, _, _ => rfl
  | c + 1, [], _, _, _, h, _ => by simp at h
  | c + 1, _ :: _, [], _, _, _, h => by simp at h
  | c + 1, x :: a, y :: b, [], _, _, _ => rfl
  | c + 1, x :: a, y :: b, z :: d, h, h1, h2 => by
    simp only [List.take_succ_cons, List.cons.injEq] at h
    obtain ⟨rfl, h⟩ := h
    simp only [ltC]
    rw [ltC_take c a b d h (by simpa using h1) (by simpa using h2)]
theorem ltC_one {a b : Rw} (ha : a ≠ []) (hb : b ≠ []) : ltC 1 a b = decide (at0 a 0 < at0 b 0) := by
  cases a with
  | nil => exact absurd rfl ha
  | cons x a => cases b with
    | nil => exact absurd rfl hb
    | cons y b =>
      simp only [ltC, at0, List.getElem?_cons_zero, Option.getD_some]
      by_cases e : x = y
      · subst e; simp
      · rw [if_neg e]; exact decide_eq_decide.2 Iff.rfl
/-! the list of those ahead -/
theorem tw_len {α : Type} {p : α → Bool} : ∀ {l : List α} {i : Nat}, i ≤ l.length → (∀ j x, j < i → l[j]? = some x → p x = true) → (∀ x, l[i]? = some x → p x = false) → (l.takeWhile p).length = i
  | [], i, h, _, _ => by simp at h; simp [h]
  | x :: l, 0, _, _, h => by rw [List.takeWhile_cons, if_neg (by rw [h x rfl]; simp)]; rfl
  | x :: l, i + 1, hi, h1, h2 => by
    rw [List.takeWhile_cons, if_pos (h1 0 x (by omega) rfl), List.length_cons]
    rw [tw_len (i := i) (by simpa using hi) (fun j y hj hy => h1 (j + 1) y (by omega) (by simpa using hy)) fun y hy => h2 y (by simpa using hy)]
theorem tw_le {α : Type} {p : α → Bool} : ∀ (l : List α), (l.takeWhile p).length ≤ l.length
  | [] => by simp
  | x :: l => by
    rw [List.takeWhile_cons]; split
    · simp only [List.length_cons]; have := tw_le (p := p) l; omega
    · simp
theorem tw_before {α : Type} {p : α → Bool} : ∀ {l : List α} {j : Nat} {x : α}, j < (l.takeWhile p).length → l[j]? = some x → p x = true
  | [], j, x, h, _ => by simp at h
  | y :: l, j, x, h, hx => by
    rw [List.takeWhile_cons] at h
    split at h
    · rename_i hp
      cases j with
      | zero => simp only [List.getElem?_cons_zero, Option.some.injEq] at hx; rw [← hx]; exact hp
      | succ j => exact tw_before (by simpa using h) (by simpa using hx)
    · simp at h
theorem tw_at {α : Type} {p : α → Bool} : ∀ {l : List α} {x : α}, l[(l.takeWhile p).length]? = some x → p x = false
  | [], x, h => by simp at h
  | y :: l, x, h => by
    rw [List.takeWhile_cons] at h
    split at h
    · rename_i hp; exact tw_at (by simpa using h)
    · rename_i hp
      simp only [List.length_nil, List.getElem?_cons_zero, Option.some.injEq] at h
      rw [← h]; simpa using hp
theorem posC_le (c : Nat) (R : Rws) (a : Rw) : posC c R a ≤ R.length := tw_le R
/-! rows that ascend -/
theorem asc_step {p : Rw → Rw → Bool} : ∀ {R : Rws}, ascB p R = true ↔ ∀ (i : Nat) a b, R[i]? = some a → R[i + 1]? = some b → p a b = true
  | [] => ⟨fun _ i a b h => by simp at h, fun _ => rfl⟩
  | [x] => ⟨fun _ i a b _ h => by simp at h, fun _ => rfl⟩
  | x :: y :: r => by
    have ih := asc_step (p := p) (R := y :: r)
    simp only [ascB, Bool.and_eq_true, ih]
    constructor
    · rintro ⟨h1, h2⟩ i a b ha hb
      cases i with
      | zero => simp at ha hb; rw [← ha, ← hb]; exact h1
      | succ i => exact h2 i a b (by simpa using ha) (by simpa using hb)
    · exact fun h => ⟨h 0 x y rfl rfl, fun i a b ha hb => h (i + 1) a b (by simpa using ha) (by simpa using hb)⟩
theorem asc_pair {p : Rw → Rw → Bool} {R : Rws} (ht : ∀ a b d, a ∈ R → b ∈ R → d ∈ R → p a b = true → p b d = true → p a d = true) (h : ascB p R = true) : ∀ (n i : Nat) a b, R[i]? = some a → R[i + 1 + n]? = some b → p a b = true
  | 0, i, a, b, ha, hb => asc_step.1 h i a b ha hb
  | n + 1, i, a, b, ha, hb => by
    have hlt := (List.getElem?_eq_some_iff.1 hb).1
    obtain ⟨d, hd⟩ := exists_at (l := R) (i := i + 1 + n) (by omega)
    exact ht a d b (List.mem_of_getElem? ha) (List.mem_of_getElem? hd) (List.mem_of_getElem? hb) (asc_pair ht h n i a d ha hd) (asc_step.1 h (i + 1 + n) d b hd (by rw [show i + 1 + n + 1 = i + 1 + (n + 1) by omega]; exact hb))
theorem asc_pairwise {p : Rw → Rw → Bool} {R : Rws} (ht : ∀ a b d, a ∈ R → b ∈ R → d ∈ R → p a b = true → p b d = true → p a d = true) : ascB p R = true ↔ R.Pairwise fun a b => p a b = true := by
  constructor
  · intro h
    rw [List.pairwise_iff_getElem]
    intro i j hi hj hij
    exact asc_pair ht h (j - i - 1) i _ _ (List.getElem?_eq_getElem hi) (by rw [show i + 1 + (j - i - 1) = j by omega]; exact List.getElem?_eq_getElem hj)
  · intro h
    rw [List.pairwise_iff_getElem] at h
    refine asc_step.2 fun i a b ha hb => ?_
    obtain ⟨h1, rfl⟩ := List.getElem?_eq_some_iff.1 ha
    obtain ⟨h2, rfl⟩ := List.getElem?_eq_some_iff.1 hb
    exact h i (i + 1) h1 h2 (by omega)
end Hw.Mq
namespace Hw.Mq
open Go Go.Proofs Hw.M

/-! models: what an operation leaves is valid -/
theorem numB_iff {n : Int} : numB n = true ↔ -1048576 ≤ n ∧ n ≤ 1048576 := by simp [numB]
theorem chrB_iff {n : Int} : chrB n = true ↔ 0 ≤ n ∧ n ≤ 255 := by simp [chrB]
structure TabOk (w : Nat) (p : Rw → Rw → Bool) (R : Rws) : Prop where
  wide : ∀ r ∈ R, r.length = w
  nums : ∀ r ∈ R, ∀ x ∈ r, numB x = true
  asc : R.Pairwise fun a b => p a b = true
def TrW (w : Nat) (p : Rw → Rw → Bool) : Prop := ∀ a b d : Rw, a.length = w → b.length = w → d.length = w → p a b = true → p b d = true → p a d = true
theorem table_iff {w : Nat} {p : Rw → Rw → Bool} (ht : TrW w p) {R : Rws} : tableB w p R = true ↔ TabOk w p R := by
  unfold tableB
  simp only [Bool.and_eq_true, List.all_eq_true, decide_eq_true_eq]
  constructor
  · rintro ⟨h1, h2⟩
    exact ⟨fun r hr => (h1 r hr).1, fun r hr => (h1 r hr).2, (asc_pairwise fun a b d ha hb hd => ht a b d (h1 a ha).1 (h1 b hb).1 (h1 d hd).1).1 h2⟩
  · rintro ⟨h1, h2, h3⟩
    exact ⟨fun r hr => ⟨h1 r hr, h2 r hr⟩, (asc_pairwise fun a b d ha hb hd => ht a b d (h1 a ha) (h1 b hb) (h1 d hd)).2 h3⟩
theorem TabOk.sub {w : Nat} {p : Rw → Rw → Bool} {R R' : Rws} (h : TabOk w p R) (hs : R'.Sublist R) : TabOk w p R' :=
  ⟨fun r hr => h.wide r (hs.subset hr), fun r hr => h.nums r (hs.subset hr), h.asc.sublist hs⟩
theorem TabOk.ins {w : Nat} {p : Rw → Rw → Bool} {R : Rws} (h : TabOk w p R) {i : Nat} {x : Rw} (hw : x.length = w) (hn : ∀ y ∈ x, numB y = true) (h1 : ∀ r ∈ R.take i, p r x = true) (h2 : ∀ r ∈ R.drop i, p x r = true) : TabOk w p (insR R i x) := by
  have hm : ∀ r ∈ insR R i x, r ∈ R ∨ r = x := fun r hr => by
    simp only [insR, List.mem_append, List.mem_cons] at hr
    rcases hr with hr | rfl | hr
    · exact .inl (List.mem_of_mem_take hr)
    · exact .inr rfl
    · exact .inl (List.mem_of_mem_drop hr)
  have hs : (R.take i ++ R.drop i).Pairwise fun a b => p a b = true := by rw [List.take_append_drop]; exact h.asc
  rw [List.pairwise_append] at hs
  refine ⟨fun r hr => ?_, fun r hr => ?_, ?_⟩
  · rcases hm r hr with hr | rfl
    · exact h.wide r hr
    · exact hw
  · rcases hm r hr with hr | rfl
    · exact h.nums r hr
    · exact hn
  · rw [insR, List.pairwise_append]
    refine ⟨hs.1, List.pairwise_cons.2 ⟨h2, hs.2.1⟩, fun a ha b hb => ?_⟩
    rcases List.mem_cons.1 hb with rfl | hb
    · exact h1 a ha
    · exact hs.2.2 a ha b hb
theorem tr_lt (c w : Nat) : TrW w (ltC c) := fun _ _ _ _ _ _ h h2 => ltC_trans c h h2
theorem tr_le : TrW 1 fun a b => !ltC 1 b a := fun a b d ha hb hd h h2 => by
  have na : a ≠ [] := fun e => by subst e; simp at ha
  have nb : b ≠ [] := fun e => by subst e; simp at hb
  have nd : d ≠ [] := fun e => by subst e; simp at hd
  simp only [ltC_one nb na, ltC_one nd nb, ltC_one nd na, Bool.not_eq_true', decide_eq_false_iff_not] at h h2 ⊢
  omega
theorem tr_all (w : Nat) : TrW w fun _ _ => true := fun _ _ _ _ _ _ _ _ => rfl
/-- Those ahead are before, the others not. -/
theorem posC_spec {c w : Nat} {p : Rw → Rw → Bool} {R : Rws} (h : TabOk w p R) (hp : ∀ r s a : Rw, r.length = w → s.length = w → p r s = true → ltC c s a = true → ltC c r a = true) (a : Rw) :
    (∀ r ∈ R.take (posC c R a), ltC c r a = true) ∧ (∀ r ∈ R.drop (posC c R a), ltC c r a = false) := by
  constructor
  · intro r hr
    obtain ⟨j, hj⟩ := List.mem_iff_getElem?.1 hr
    rw [List.getElem?_take] at hj
    split at hj
    · rename_i hlt; exact tw_before (p := fun r => ltC c r a) hlt hj
    · cases hj
  · intro r hr
    obtain ⟨j, hj⟩ := List.mem_iff_getElem?.1 hr
    rw [List.getElem?_drop] at hj
    have hlt := (List.getElem?_eq_some_iff.1 hj).1
    obtain ⟨s, hs⟩ := exists_at (l := R) (i := posC c R a) (by omega)
    have h0 : ltC c s a = false := tw_at (p := fun r => ltC c r a) hs
    cases j with
    | zero => rw [Nat.add_zero, hs] at hj; obtain rfl := Option.some.inj hj; exact h0
    | succ j =>
      cases h1 : ltC c r a with
      | false => rfl
      | true =>
        have hps : p s r = true := by
          have := h.asc
          rw [List.pairwise_iff_getElem] at this
          obtain ⟨g1, g2⟩ := List.getElem?_eq_some_iff.1 hs
          obtain ⟨g3, g4⟩ := List.getElem?_eq_some_iff.1 hj
          rw [← g2, ← g4]
          exact this _ _ g1 g3 (by omega)
        rw [hp s r a (h.wide s (List.mem_of_getElem? hs)) (h.wide r (List.mem_of_getElem? hj)) hps h1] at h0
        cases h0
theorem pos_lt {c w : Nat} : ∀ r s a : Rw, r.length = w → s.length = w → ltC c r s = true → ltC c s a = true → ltC c r a = true := fun _ _ _ _ _ h h2 => ltC_trans c h h2
theorem pos_le : ∀ r s a : Rw, r.length = 1 → s.length = 1 → (!ltC 1 s r) = true → ltC 1 s a = true → ltC 1 r a = true := fun r s a hr hs h h2 => by
  have nr : r ≠ [] := fun e => by subst e; simp at hr
  have ns : s ≠ [] := fun e => by subst e; simp at hs
  have na : a ≠ [] := fun e => by subst e; cases s <;> simp [ltC] at h2
  simp only [ltC_one ns nr, ltC_one ns na, ltC_one nr na, Bool.not_eq_true', decide_eq_false_iff_not, decide_eq_true_eq] at h h2 ⊢
  omega
/-- Without the row: strictly behind all that come from there on. -/
theorem posC_gt {c w : Nat} {R : Rws} (h : TabOk w (ltC c) R) (hcw : c ≤ w) {a : Rw} (ha : c ≤ a.length) (hn : hasC c R a = false) : ∀ r ∈ R.drop (posC c R a), ltC c a r = true := by
  intro r hr
  have h1 := (posC_spec h pos_lt a).2 r hr
  have hm := List.mem_of_mem_drop hr
  refine ltC_tri c (by rw [h.wide r hm]; exact hcw) ha h1 fun e => ?_
  obtain ⟨j, hj⟩ := List.mem_iff_getElem?.1 hr
  rw [List.getElem?_drop] at hj
  have hlt := (List.getElem?_eq_some_iff.1 hj).1
  obtain ⟨s, hs⟩ := exists_at (l := R) (i := posC c R a) (by omega)
  have hsm := List.mem_of_getElem? hs
  have hne : s.take c ≠ a.take c := fun e => by
    unfold hasC at hn
    rw [hs] at hn
    exact absurd e (of_decide_eq_false hn)
  cases j with
  | zero => rw [Nat.add_zero, hs] at hj; obtain rfl := Option.some.inj hj; exact hne e
  | succ j =>
    have hps : ltC c s r = true := by
      have := h.asc
      rw [List.pairwise_iff_getElem] at this
      obtain ⟨g1, g2⟩ := List.getElem?_eq_some_iff.1 hs
      obtain ⟨g3, g4⟩ := List.getElem?_eq_some_iff.1 hj
      rw [← g2, ← g4]
      exact this _ _ g1 g3 (by omega)
    have h0 : ltC c s a = false := tw_at (p := fun r => ltC c r a) hs
    have := ltC_tri c (by rw [h.wide s hsm]; exact hcw) ha h0 hne
    -- a before s before r, and r's first columns are a's
    have h2 := ltC_trans c this hps
    rw [← ltC_take c r a r e (by rw [h.wide r hm]; exact hcw) ha, ltC_irr] at h2
    cases h2
end Hw.Mq
namespace Hw.Mq
open Go Go.Proofs Hw.M

/-! models: partitions, plain -/
theorem mergeI_perm : ∀ (n : Nat) (a b : List Int), a.length + b.length ≤ n → (mergeI a b).Perm (a ++ b)
  | _, [], b, _ => by rw [mergeI]; exact .refl _
  | _, x :: a, [], _ => by rw [mergeI, List.append_nil]; simp
  | 0, x :: a, y :: b, h => by simp at h
  | n + 1, x :: a, y :: b, h => by
    simp only [List.length_cons] at h
    rw [mergeI]
    split
    · exact (mergeI_perm n a (y :: b) (by simp only [List.length_cons]; omega)).cons x
    · exact ((mergeI_perm n (x :: a) b (by simp only [List.length_cons]; omega)).cons y).trans List.perm_middle.symm
theorem mergeI_nil (a : List Int) : mergeI a [] = a := by cases a <;> simp [mergeI]
theorem mergeI_asc : ∀ (n : Nat) (a b : List Int), a.length + b.length ≤ n → a.Pairwise (· < ·) → b.Pairwise (· < ·) → (∀ x ∈ a, x ∉ b) → (mergeI a b).Pairwise (· < ·)
  | _, [], b, _, _, h, _ => by rw [mergeI]; exact h
  | _, x :: a, [], _, h, _, _ => by rw [mergeI_nil]; exact h
  | 0, x :: a, y :: b, h, _, _, _ => by simp at h
  | n + 1, x :: a, y :: b, h, ha, hb, hd => by
    simp only [List.length_cons] at h
    have ha' := List.pairwise_cons.1 ha
    have hb' := List.pairwise_cons.1 hb
    rw [mergeI]
    split
    · rename_i hlt
      refine List.pairwise_cons.2 ⟨fun z hz => ?_, mergeI_asc n a (y :: b) (by simp only [List.length_cons]; omega) ha'.2 hb fun z hz => hd z (List.mem_cons_of_mem _ hz)⟩
      rcases List.mem_append.1 ((mergeI_perm _ a (y :: b) (Nat.le_refl _)).mem_iff.1 hz) with hz | hz
      · exact ha'.1 z hz
      · rcases List.mem_cons.1 hz with rfl | hz
        · exact hlt
        · have := hb'.1 z hz; omega
    · rename_i hge
      have hne : x ≠ y := fun e => hd x (List.mem_cons_self ..) (by rw [e]; exact List.mem_cons_self ..)
      refine List.pairwise_cons.2 ⟨fun z hz => ?_, mergeI_asc n (x :: a) b (by simp only [List.length_cons]; omega) ha hb'.2 fun z hz hm => hd z hz (List.mem_cons_of_mem _ hm)⟩
      rcases List.mem_append.1 ((mergeI_perm _ (x :: a) b (Nat.le_refl _)).mem_iff.1 hz) with hz | hz
      · rcases List.mem_cons.1 hz with rfl | hz
        · omega
        · have := ha'.1 z hz; omega
      · exact hb'.1 z hz
theorem ascI_iff : ∀ {l : List Int}, ascI l = true ↔ l.Pairwise (· < ·)
  | [] => by simp [ascI]
  | [x] => by simp [ascI]
  | x :: y :: l => by
    have ih := ascI_iff (l := y :: l)
    simp only [ascI, Bool.and_eq_true, decide_eq_true_eq, ih]
    rw [List.pairwise_cons (a := x)]
    constructor
    · rintro ⟨h1, h2⟩
      refine ⟨fun z hz => ?_, h2⟩
      rcases List.mem_cons.1 hz with rfl | hz
      · exact h1
      · have := (List.pairwise_cons.1 h2).1 z hz; omega
    · exact fun ⟨h1, h2⟩ => ⟨h1 y (List.mem_cons_self ..), h2⟩
/-- Lists that ascend and have the same elements are the same. -/
theorem asc_uniq : ∀ {a b : List Int}, a.Perm b → a.Pairwise (· ≤ ·) → b.Pairwise (· ≤ ·) → a = b
  | [], b, h, _, _ => h.nil_eq
  | x :: a, [], h, _, _ => by have := h.length_eq; simp at this
  | x :: a, y :: b, h, ha, hb => by
    have ha' := List.pairwise_cons.1 ha
    have hb' := List.pairwise_cons.1 hb
    have h1 : x = y := by
      have hx := h.mem_iff.1 (List.mem_cons_self .. : x ∈ x :: a)
      have hy := h.mem_iff.2 (List.mem_cons_self .. : y ∈ y :: b)
      rcases List.mem_cons.1 hx with hx | hx
      · exact hx
      · rcases List.mem_cons.1 hy with hy | hy
        · exact hy.symm
        · have := ha'.1 y hy; have := hb'.1 x hx; omega
    subst h1
    rw [asc_uniq (h.cons_inv) ha'.2 hb'.2]
theorem pw_le {l : List Int} (h : l.Pairwise (· < ·)) : l.Pairwise (· ≤ ·) := h.imp fun h => by omega
structure SetsOk (R : Rws) : Prop where
  tot : R.flatten.length ≤ 500
  ne : ∀ r ∈ R, r ≠ []
  asc : ∀ r ∈ R, r.Pairwise (· < ·)
  fst : (R.map fun r => at0 r 0).Pairwise (· < ·)
  rng : ∀ x ∈ R.flatten, 0 ≤ x ∧ x < (R.flatten.length : Int)
  nd : R.flatten.Nodup
theorem sets_iff {R : Rws} : setsB R = true ↔ SetsOk R := by
  unfold setsB
  have hp := asc_pairwise (p := fun a b => decide (at0 a 0 < at0 b 0)) (R := R) fun a b d _ _ _ h h2 => by
    have := of_decide_eq_true h; have := of_decide_eq_true h2; exact decide_eq_true (by omega)
  simp only [Bool.and_eq_true, List.all_eq_true, decide_eq_true_eq, hp, Bool.not_eq_true', decide_eq_false_iff_not, ascI_iff]
  constructor
  · rintro ⟨⟨⟨⟨h1, h2⟩, h3⟩, h4⟩, h5⟩
    exact ⟨h1, fun r hr => (h2 r hr).1, fun r hr => (h2 r hr).2, by rw [List.pairwise_map]; exact h3, h4, h5⟩
  · rintro ⟨h1, h2, h3, h4, h5, h6⟩
    exact ⟨⟨⟨⟨h1, fun r hr => ⟨h2 r hr, h3 r hr⟩⟩, by rw [List.pairwise_map] at h4; exact h4⟩, h5⟩, h6⟩
theorem ne_len : ∀ {R : Rws}, (∀ r ∈ R, r ≠ []) → R.length ≤ R.flatten.length
  | [], _ => Nat.le_refl _
  | r :: R, h => by
    have h1 : r ≠ [] := h r (List.mem_cons_self ..)
    have := List.length_pos_iff.2 h1
    have := ne_len (R := R) fun x hx => h x (List.mem_cons_of_mem _ hx)
    simp only [List.flatten_cons, List.length_append, List.length_cons]; omega
theorem SetsOk.make {R : Rws} (h : SetsOk R) (hn : R.flatten.length ≠ 500) : SetsOk (R ++ [[(R.flatten.length : Int)]]) := by
  have hf : (R ++ [[(R.flatten.length : Int)]]).flatten = R.flatten ++ [(R.flatten.length : Int)] := by simp
  have hl : (R ++ [[(R.flatten.length : Int)]]).flatten.length = R.flatten.length + 1 := by rw [hf]; simp
  have ht := h.tot
  refine ⟨by omega, fun r hr => ?_, fun r hr => ?_, ?_, fun x hx => ?_, ?_⟩
  · rcases List.mem_append.1 hr with hr | hr
    · exact h.ne r hr
    · rw [List.mem_singleton.1 hr]; simp
  · rcases List.mem_append.1 hr with hr | hr
    · exact h.asc r hr
    · rw [List.mem_singleton.1 hr]; simp
  · rw [List.map_append, List.pairwise_append]
    refine ⟨h.fst, by simp, fun a ha b hb => ?_⟩
    obtain ⟨r, hr, rfl⟩ := List.mem_map.1 ha
    simp only [List.map_cons, List.map_nil, List.mem_singleton] at hb
    subst hb
    have hr0 := h.ne r hr
    cases r with
    | nil => exact absurd rfl hr0
    | cons x r =>
      have := (h.rng x (List.mem_flatten.2 ⟨_, hr, List.mem_cons_self ..⟩)).2
      simpa [at0] using this
  · rw [hl]
    rw [hf] at hx
    rcases List.mem_append.1 hx with hx | hx
    · have := h.rng x hx; omega
    · rw [List.mem_singleton.1 hx]; omega
  · rw [hf, List.nodup_append]
    refine ⟨h.nd, by simp, fun a ha b hb e => ?_⟩
    have := (h.rng a ha).2
    rw [List.mem_singleton.1 hb] at e
    omega
theorem two_split {R : Rws} {a b : Nat} {A B : Rw} (ha : R[a]? = some A) (hb : R[b]? = some B) (hab : a < b) : ∃ Pr Qr Sr : Rws, R = Pr ++ A :: (Qr ++ B :: Sr) ∧ ∀ M : Rw, (R.set a M).eraseIdx b = Pr ++ M :: (Qr ++ Sr) := by
  obtain ⟨ha1, ha2⟩ := List.getElem?_eq_some_iff.1 ha
  obtain ⟨hb1, hb2⟩ := List.getElem?_eq_some_iff.1 hb
  have e1 : R = R.take a ++ A :: R.drop (a + 1) := by
    rw [← ha2, ← List.drop_eq_getElem_cons ha1, List.take_append_drop]
  have hd : (R.drop (a + 1))[b - a - 1]? = some B := by rw [List.getElem?_drop, show a + 1 + (b - a - 1) = b by omega]; exact hb
  obtain ⟨hd1, hd2⟩ := List.getElem?_eq_some_iff.1 hd
  have e2 : R.drop (a + 1) = (R.drop (a + 1)).take (b - a - 1) ++ B :: (R.drop (a + 1)).drop (b - a - 1 + 1) := by
    rw [← hd2, ← List.drop_eq_getElem_cons hd1, List.take_append_drop]
  have hlp : (R.take a).length = a := by rw [List.length_take]; omega
  have hlq : ((R.drop (a + 1)).take (b - a - 1)).length = b - a - 1 := by rw [List.length_take, List.length_drop]; omega
  refine ⟨R.take a, (R.drop (a + 1)).take (b - a - 1), (R.drop (a + 1)).drop (b - a - 1 + 1), by rw [← e2]; exact e1, fun M => ?_⟩
  generalize R.take a = Pr at e1 hlp
  generalize (R.drop (a + 1)).take (b - a - 1) = Qr at e2 hlq
  generalize (R.drop (a + 1)).drop (b - a - 1 + 1) = Sr at e2
  rw [e1, e2]
  rw [List.set_append_right _ _ (by omega), hlp, Nat.sub_self, List.set_cons_zero, List.eraseIdx_append_of_length_le (by omega), hlp, show b - a = (b - a - 1) + 1 by omega, List.eraseIdx_cons_succ, List.eraseIdx_append_of_length_le (by omega), hlq, Nat.sub_self]
  rfl
theorem flat_two (Pr Qr Sr : Rws) (A B M : Rw) (h : M.Perm (A ++ B)) : (Pr ++ M :: (Qr ++ Sr)).flatten.Perm (Pr ++ A :: (Qr ++ B :: Sr)).flatten := by
  simp only [List.flatten_append, List.flatten_cons]
  refine List.Perm.append_left _ ?_
  refine (List.Perm.append_right _ h).trans ?_
  rw [List.append_assoc]
  refine List.Perm.append_left _ ?_
  rw [← List.append_assoc, ← List.append_assoc]
  exact List.Perm.append_right _ List.perm_append_comm
theorem SetsOk.union {R : Rws} (h : SetsOk R) {a b : Nat} {A B : Rw} (ha : R[a]? = some A) (hb : R[b]? = some B) (hab : a < b) : SetsOk ((R.set a (mergeI A B)).eraseIdx b) := by
  obtain ⟨Pr, Qr, Sr, e1, e2⟩ := two_split ha hb hab
  have hA : A ∈ R := List.mem_of_getElem? ha
  have hB : B ∈ R := List.mem_of_getElem? hb
  have hperm := flat_two Pr Qr Sr A B _ (mergeI_perm _ A B (Nat.le_refl _))
  rw [← e1] at hperm
  rw [e2]
  have hdis : ∀ x ∈ A, x ∉ B := fun x hx hy => by
    have := h.nd
    rw [e1] at this
    simp only [List.flatten_append, List.flatten_cons] at this
    have h1 := (List.nodup_append.1 this).2.1
    have h2 := (List.nodup_append.1 h1).2.2 x hx x (by simp [hy])
    exact h2 rfl
  have hf : at0 (mergeI A B) 0 = at0 A 0 := by
    have hlt : at0 A 0 < at0 B 0 := by
      have := h.fst
      rw [e1] at this
      simp only [List.map_append, List.map_cons] at this
      have h1 := (List.pairwise_append.1 this).2.1
      exact (List.pairwise_cons.1 h1).1 _ (by simp)
    cases A with
    | nil => exact absurd rfl (h.ne _ hA)
    | cons x A => cases B with
      | nil => rw [mergeI_nil]
      | cons y B =>
        rw [mergeI, if_pos (by simpa [at0] using hlt)]
        rfl
  have hmem : ∀ r ∈ Pr ++ mergeI A B :: (Qr ++ Sr), r = mergeI A B ∨ r ∈ R := fun r hr => by
    rw [e1]
    simp only [List.mem_append, List.mem_cons] at hr ⊢
    rcases hr with hr | hr | hr | hr <;> simp [hr]
  refine ⟨by rw [hperm.length_eq]; exact h.tot, fun r hr => ?_, fun r hr => ?_, ?_, fun x hx => ?_, (hperm.nodup_iff).2 h.nd⟩
  · rcases hmem r hr with rfl | hr
    · intro e
      have := (mergeI_perm _ A B (Nat.le_refl _)).length_eq
      rw [e] at this
      have h1 := List.length_pos_iff.2 (h.ne _ hA)
      simp at this
      omega
    · exact h.ne r hr
  · rcases hmem r hr with rfl | hr
    · exact mergeI_asc _ A B (Nat.le_refl _) (h.asc _ hA) (h.asc _ hB) hdis
    · exact h.asc r hr
  · have := h.fst
    rw [e1] at this
    refine this.sublist ?_
    simp only [List.map_append, List.map_cons, hf]
    refine (List.Sublist.refl _).append ((List.Sublist.append (List.Sublist.refl _) ?_).cons_cons _)
    exact List.sublist_cons_self _ _
  · rw [hperm.length_eq]
    exact h.rng x (hperm.mem_iff.1 hx)
end Hw.Mq
namespace Hw.Mq
open Go Go.Proofs Hw.M

theorem mul_one' (i : Nat) : (i : Int) + 1 = ((i + 1 : Nat) : Int) := by omega
theorem wrapS {i : Nat} (h : i < 9223372036854775807) : IntKind.i64.wrap ((i : Int) + 1) = ((i + 1 : Nat) : Int) := by rw [mul_one']; exact wrap64 (by omega)
end Hw.Mq
namespace Hw.Mq
open Go Go.Proofs Hw.M

/-! models: numbers, words, lists, comparisons -/
theorem drop_at {α : Type} {l : List α} {i : Nat} {x : α} (h : l[i]? = some x) : l.drop i = x :: l.drop (i + 1) := by
  obtain ⟨hi, rfl⟩ := List.getElem?_eq_some_iff.1 h
  exact List.drop_eq_getElem_cons hi
def idxR {α σ : Type} (p : α → σ → Bool) (nx : α → σ → σ) : List α → Nat → σ → Int × σ
  | [], _, s => (-1, s)
  | x :: r, k, s => if p x s = true then ((k : Int), nx x s) else idxR p nx r (k + 1) (nx x s)
def anyR {α σ : Type} (p : α → σ → Bool) (nx : α → σ → σ) : List α → σ → Bool × σ
  | [], s => (false, s)
  | x :: r, s => if p x s = true then (true, nx x s) else anyR p nx r (nx x s)
theorem anyR_12 {α σ : Type} (p : α → σ → Bool) (nx : α → σ → σ) : ∀ (l : List α) (k : Nat) (s : σ), ∃ i s', idxR p nx l k s = (i, s') ∧ anyR p nx l s = (decide (0 ≤ i), s')
  | [], k, s => ⟨-1, s, rfl, rfl⟩
  | x :: r, k, s => by
    simp only [idxR, anyR]
    by_cases h : p x s = true
    · exact ⟨k, nx x s, if_pos h, by rw [if_pos h, decide_eq_true (by omega)]⟩
    · rw [if_neg h, if_neg h]; exact anyR_12 p nx r (k + 1) (nx x s)
theorem anyR_1 {α σ : Type} (p : α → σ → Bool) (nx : α → σ → σ) (l : List α) (k : Nat) (s : σ) : decide (0 ≤ (idxR p nx l k s).1) = (anyR p nx l s).1 := by
  obtain ⟨i, s', h1, h2⟩ := anyR_12 p nx l k s
  simp only [h1, h2]
theorem anyR_2 {α σ : Type} (p : α → σ → Bool) (nx : α → σ → σ) (l : List α) (k : Nat) (s : σ) : (idxR p nx l k s).2 = (anyR p nx l s).2 := by
  obtain ⟨i, s', h1, h2⟩ := anyR_12 p nx l k s
  simp only [h1, h2]
/-- Without a state. -/
theorem anyR_no {α : Type} (p : α → Bool) : ∀ (l : List α) (s : Unit), (anyR (fun x _ => p x) (fun _ s => s) l s).1 = l.any p
  | [], _ => rfl
  | x :: r, s => by
    simp only [anyR, List.any_cons]
    cases h : p x with
    | true => rfl
    | false => simp only [Bool.false_eq_true, if_false, Bool.false_or]; exact anyR_no p r s


theorem isNaN_ok (x : Int) : FnOK Tryz.prog 117 [I x] [] (Bo false) [] := by
  refine fn_ok T Tryz.func117 (by kernel_rfl) rfl rfl rfl rfl fun C hC => ?_
  repeat' first
    | refine g_go T hC true 400 rfl rfl ?_
    | refine g_cond rfl (fun h => ?_) (fun h => ?_)
    | refine g_end T hC (by kernel_rfl) ?_
    | refine g_splitD (fun h => ?_) (fun h => ?_)
    | refine g_splitG rfl rfl rfl (fun h => ?_) (fun h => ?_)
    | refine g_splitP rfl rfl (fun h => ?_) (fun h => ?_)
  exact g_fin ⟨.inl rfl, id, _, rfl, LeS.bq (by simp), trivial, rfl, rfl⟩
def sgnI (x y : Int) : Int := if x < y then -1 else if y < x then 1 else 0
theorem cmpC_ok (x y : Int) : FnOK Tryz.prog 95 [I x, I y] [] (I (sgnI x y)) [] := by
  refine fn_ok T Tryz.func95 (by kernel_rfl) rfl rfl rfl rfl fun C hC => ?_
  repeat' first
    | refine g_go T hC true 400 rfl rfl ?_
    | (exfalso; simp at h; done)
    | refine g_cond rfl (fun h => ?_) (fun h => ?_)
    | refine g_end T hC (by kernel_rfl) ?_
    | refine g_splitD (fun h => ?_) (fun h => ?_)
    | refine g_splitG rfl rfl rfl (fun h => ?_) (fun h => ?_)
    | refine g_splitP rfl rfl (fun h => ?_) (fun h => ?_)
    | refine g_call hC (isNaN_ok _) rfl rfl (LeSs.refl _) rfl rfl rfl ?_
    | refine g_reti T (.inl rfl) rfl ?_
  all_goals first
    | (have h2 := of_decide_eq_true h; unfold sgnI; first | (rw [if_pos h2]; done) | (have h1 := of_decide_eq_false (by assumption : decide (x < y) = false); rw [if_neg h1, if_pos h2]; done))
    | (have h1 := of_decide_eq_false (by assumption : decide (x < y) = false); have h2 := of_decide_eq_false h; unfold sgnI; rw [if_neg h1, if_neg h2]; done)
    | (simp at h; done)
theorem number_ok (n : Int) : FnOK Tryz.prog 38 [I n] [] (.bq (numB n)) [] := by
  refine fn_ok T Tryz.func38 (by kernel_rfl) rfl rfl rfl rfl fun C hC => ?_
  repeat' first
    | refine g_go T hC true 400 rfl rfl ?_
    | refine g_cond rfl (fun h => ?_) (fun h => ?_)
    | refine g_end T hC (by kernel_rfl) ?_
    | refine g_splitD (fun h => ?_) (fun h => ?_)
    | refine g_splitG rfl rfl rfl (fun h => ?_) (fun h => ?_)
    | refine g_splitP rfl rfl (fun h => ?_) (fun h => ?_)
    | refine g_retq T (.inl rfl) rfl ?_
    | refine g_retl T (.inl rfl) rfl ?_
  all_goals (unfold numB; first | (rw [h]; rfl) | (rename_i h1; rw [h1, h]; rfl) | (simp_all; done))
theorem key_ok (n : Int) : FnOK Tryz.prog 31 [I n] [] (.bq (numB n)) [] := by
  refine fn_ok T Tryz.func31 (by kernel_rfl) rfl rfl rfl rfl fun C hC => ?_
  repeat' first
    | refine g_go T hC true 400 rfl rfl ?_
    | refine g_cond rfl (fun h => ?_) (fun h => ?_)
    | refine g_end T hC (by kernel_rfl) ?_
    | refine g_splitD (fun h => ?_) (fun h => ?_)
    | refine g_splitG rfl rfl rfl (fun h => ?_) (fun h => ?_)
    | refine g_splitP rfl rfl (fun h => ?_) (fun h => ?_)
    | refine g_retq T (.inl rfl) rfl ?_
    | refine g_retl T (.inl rfl) rfl ?_
  all_goals (unfold numB; first | (rw [h]; rfl) | (rename_i h1; rw [h1, h]; rfl) | (simp_all; done))
theorem character_ok (n : Int) : FnOK Tryz.prog 36 [I n] [] (.bq (chrB n)) [] := by
  refine fn_ok T Tryz.func36 (by kernel_rfl) rfl rfl rfl rfl fun C hC => ?_
  repeat' first
    | refine g_go T hC true 400 rfl rfl ?_
    | refine g_cond rfl (fun h => ?_) (fun h => ?_)
    | refine g_end T hC (by kernel_rfl) ?_
    | refine g_splitD (fun h => ?_) (fun h => ?_)
    | refine g_splitG rfl rfl rfl (fun h => ?_) (fun h => ?_)
    | refine g_splitP rfl rfl (fun h => ?_) (fun h => ?_)
    | refine g_retq T (.inl rfl) rfl ?_
    | refine g_retl T (.inl rfl) rfl ?_
  all_goals (unfold chrB; first | (rw [h]; rfl) | (rename_i h1; rw [h1, h]; rfl) | (simp_all; done))
theorem intN_idx (f : FuncId)  (l : List Int) (p : Int → Unit → Bool) (nx : Int → Unit → Unit) (inv : Unit → Prop)
    (hf : ∀ x ∈ l, ∀ s : Unit, inv s → FnOK Tryz.prog f [I x] [] (.bq (p x s)) ((fun s : Unit => []) (nx x s)) ∧ (p x s = false → inv (nx x s))) (s : Unit) (hs : inv s) :
    FnOK Tryz.prog 50 [pS (.sl 1 (l.map intR)), .one (.cl f [] [])] [] (I (idxR p nx l 0 s).1) ((fun s : Unit => []) (idxR p nx l 0 s).2) := by
  refine fn_ok T Tryz.func50 (by kernel_rfl) rfl rfl rfl rfl fun C hC => ?_
  have hs0 := hs
  refine g_len 0 rfl fun hl => ?_
  rw [List.length_map] at hl
  repeat' first
    | refine g_go T hC true 400 rfl rfl ?_
    | refine g_cond rfl (fun h => ?_) (fun h => ?_)
    | refine g_end T hC (by kernel_rfl) ?_
    | refine g_splitD (fun h => ?_) (fun h => ?_)
    | refine g_splitG rfl rfl rfl (fun h => ?_) (fun h => ?_)
    | refine g_splitP rfl rfl (fun h => ?_) (fun h => ?_)
  rw [List.length_map]
  refine g_loop (fun q : Nat × Unit => q.1 ≤ l.length ∧ inv q.2 ∧ idxR p nx (l.drop q.1) q.1 q.2 = idxR p nx l 0 s) (fun q => (fun s : Unit => ([(0, pS (.sl 1 (l.map intR))), (1, .one (.cl f [] [])), (7, I l.length), (8, I q.1)], [])) q.2) (fun q => l.length - q.1) hC
    (0, s) ⟨Nat.zero_le _, hs, rfl⟩ id ⟨rfl, ⟨rfl, rfl, rfl, rfl, trivial⟩, trivial, rfl, fun _ _ => rfl⟩ ?_
  generalize idxR p nx l 0 s = res
  clear hs hs0
  rintro ⟨i, s⟩ ⟨hi, hv, hn⟩
  simp only at hi hv hn
  refine g_run' T hC true 200 rfl ?_
  refine g_cond rfl (fun hh => ?_) (fun hh => ?_)
  · have hlt : i < l.length := by simpa using hh
    clear hh
    obtain ⟨x, hx⟩ := exists_at hlt
    rw [drop_at hx] at hn
    simp only [idxR] at hn
    have hv2 := (hf x (List.mem_of_getElem? hx) s hv).2
    repeat' first
      | refine g_go T hC true 400 rfl rfl ?_
      | refine g_cond rfl (fun h => ?_) (fun h => ?_)
      | refine g_end T hC (by kernel_rfl) ?_
      | refine g_splitD (fun h => ?_) (fun h => ?_)
      | refine g_splitG rfl rfl rfl (fun h => ?_) (fun h => ?_)
      | refine g_splitP rfl rfl (fun h => ?_) (fun h => ?_)
      | refine g_idx T hC rfl rfl rfl (Int.natCast_nonneg _) (map_at hx) rfl rfl ?_
      | refine g_callR hC (hf x (List.mem_of_getElem? hx) s hv).1 id rfl rfl (LeSs.refl _) rfl rfl rfl rfl rfl rfl rfl rfl ?_
      | refine g_outR ?_
    · rw [if_pos (by assumption)] at hn
      subst hn
      exact g_fin ⟨.inl rfl, id, _, rfl, .refl _, trivial, rfl, rfl⟩
    · have hpf : p x s = false := by assumption
      rw [hpf] at hn
      simp only [Bool.false_eq_true, if_false] at hn
      rw [wrap64 (by omega)]
      exact g_round (i + 1, nx x s) ⟨by simp only; omega, hv2 hpf, hn⟩ id (by simp only; omega) ⟨rfl, ⟨rfl, rfl, rfl, rfl, trivial⟩, trivial, rfl, fun _ _ => rfl⟩
  · have hge : ¬ i < l.length := by simpa using hh
    rw [List.drop_eq_nil_of_le (by omega)] at hn
    simp only [idxR] at hn
    subst hn
    repeat' first
      | refine g_go T hC true 400 rfl rfl ?_
      | refine g_cond rfl (fun h => ?_) (fun h => ?_)
      | refine g_end T hC (by kernel_rfl) ?_
      | refine g_splitD (fun h => ?_) (fun h => ?_)
      | refine g_splitG rfl rfl rfl (fun h => ?_) (fun h => ?_)
      | refine g_splitP rfl rfl (fun h => ?_) (fun h => ?_)
      | refine g_outE ?_
    exact g_fin ⟨.inl rfl, id, _, rfl, .refl _, trivial, rfl, rfl⟩
theorem intN_has (f : FuncId)  (l : List Int) (p : Int → Unit → Bool) (nx : Int → Unit → Unit) (inv : Unit → Prop)
    (hf : ∀ x ∈ l, ∀ s : Unit, inv s → FnOK Tryz.prog f [I x] [] (.bq (p x s)) ((fun s : Unit => []) (nx x s)) ∧ (p x s = false → inv (nx x s))) (s : Unit) (hs : inv s) :
    FnOK Tryz.prog 34 [pS (.sl 1 (l.map intR)), .one (.cl f [] [])] [] (.bq (anyR p nx l s).1) ((fun s : Unit => []) (anyR p nx l s).2) := by
  refine fn_ok T Tryz.func34 (by kernel_rfl) rfl rfl rfl rfl fun C hC => ?_
  repeat' first
    | refine g_go T hC true 400 rfl rfl ?_
    | refine g_cond rfl (fun h => ?_) (fun h => ?_)
    | refine g_end T hC (by kernel_rfl) ?_
    | refine g_splitD (fun h => ?_) (fun h => ?_)
    | refine g_splitG rfl rfl rfl (fun h => ?_) (fun h => ?_)
    | refine g_splitP rfl rfl (fun h => ?_) (fun h => ?_)
    | refine g_callR hC (intN_idx f  l p nx inv hf s hs) (nm []) rfl rfl (LeSs.refl _) rfl rfl rfl rfl rfl rfl rfl rfl ?_
  exact g_fin ⟨.inl rfl, id, _, rfl, .qq (anyR_1 p nx l 0 s), by rw [← anyR_2 p nx l 0 s]; exact trivial, rfl, rfl⟩

theorem intN_any (f : FuncId) (l : List Int) (p : Int → Bool) (hf : ∀ x ∈ l, FnOK Tryz.prog f [I x] [] (.bq (p x)) []) : FnOK Tryz.prog 34 [pS (intsP l), .one (.cl f [] [])] [] (.bq (l.any p)) [] := by
  have := intN_has f l (fun x _ => p x) (fun _ s => s) (fun _ => True) (fun x hx s _ => ⟨hf x hx, fun _ => trivial⟩) () trivial
  rw [anyR_no] at this
  exact this
end Hw.Mq
