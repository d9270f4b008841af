/- The library's functions at this program: their numbers. -/
import Derived.Test.YtnijeifpjjeccaaGreatDoorProg
import Derived.KernelRfl
import Derived.Shelf.Strconv.AtoiAll
import Derived.Shelf.Strconv.Itoa3
import Derived.Shelf.Strings.Split
import Derived.Test.YtnijeifpjjeccaaGreatDoorC14
import Derived.Test.YtnijeifpjjeccaaGreatDoorC1
import Derived.Lib.SplitLaws
set_option linter.unusedVariables false
set_option linter.unusedSimpArgs false
namespace Hw.Mq
open Go Go.Proofs Go.Shelf
def laysAtoi_ren : Go.Shelf.Ren := ⟨fun | 172 => 28 | 244 => 48 | 245 => 49 | 247 => 66 | 279 => 67 | 280 => 68 | 281 => 69 | 282 => 70 | 287 => 92 | 316 => 93 | 171 => 23 | 205 => 94 | 321 => 115 | 322 => 116 | 243 => 46 | 246 => 62 | 283 => 84 | 284 => 85 | 285 => 86 | 286 => 87 | 129 => 106 | 317 => 105 | 318 => 107 | 319 => 108 | 320 => 109 | 337 => 130 | 338 => 131 | n => n, fun | 9 => 9 | 3 => 3 | 75 => 60 | 76 => 61 | 4 => 4 | 5 => 5 | 167 => 96 | 37 => 56 | 0 => 0 | 85 => 97 | 2 => 2 | 168 => 99 | 53 => 116 | 175 => 125 | 46 => 127 | 210 => 130 | 127 => 84 | 145 => 148 | 143 => 146 | 21 => 21 | 171 => 115 | 173 => 119 | 212 => 141 | 51 => 142 | 20 => 20 | 213 => 143 | 232 => 171 | 233 => 172 | 80 => 68 | n => n, fun | 15 => 0 | 16 => 1 | 17 => 2 | 18 => 6 | 19 => 7 | n => n⟩
theorem laysAtoi : Go.Proofs.LaysC.n172 Tryz.prog laysAtoi_ren where
  mixed := by kernel_rfl
  f129 := Tryz.func106.trans (congrArg some (by kernel_rfl))
  f171 := Tryz.func23.trans (congrArg some (by kernel_rfl))
  f172 := Tryz.func28.trans (congrArg some (by kernel_rfl))
  f205 := Tryz.func94.trans (congrArg some (by kernel_rfl))
  f243 := Tryz.func46.trans (congrArg some (by kernel_rfl))
  f244 := Tryz.func48.trans (congrArg some (by kernel_rfl))
  f245 := Tryz.func49.trans (congrArg some (by kernel_rfl))
  f246 := Tryz.func62.trans (congrArg some (by kernel_rfl))
  f247 := Tryz.func66.trans (congrArg some (by kernel_rfl))
  f279 := Tryz.func67.trans (congrArg some (by kernel_rfl))
  f280 := Tryz.func68.trans (congrArg some (by kernel_rfl))
  f281 := Tryz.func69.trans (congrArg some (by kernel_rfl))
  f282 := Tryz.func70.trans (congrArg some (by kernel_rfl))
  f283 := Tryz.func84.trans (congrArg some (by kernel_rfl))
  f284 := Tryz.func85.trans (congrArg some (by kernel_rfl))
  f285 := Tryz.func86.trans (congrArg some (by kernel_rfl))
  f286 := Tryz.func87.trans (congrArg some (by kernel_rfl))
  f287 := Tryz.func92.trans (congrArg some (by kernel_rfl))
  f316 := Tryz.func93.trans (congrArg some (by kernel_rfl))
  f317 := Tryz.func105.trans (congrArg some (by kernel_rfl))
  f318 := Tryz.func107.trans (congrArg some (by kernel_rfl))
  f319 := Tryz.func108.trans (congrArg some (by kernel_rfl))
  f320 := Tryz.func109.trans (congrArg some (by kernel_rfl))
  f321 := Tryz.func115.trans (congrArg some (by kernel_rfl))
  f322 := Tryz.func116.trans (congrArg some (by kernel_rfl))
  f337 := Tryz.func130.trans (congrArg some (by kernel_rfl))
  f338 := Tryz.func131.trans (congrArg some (by kernel_rfl))
  t0 := Tryz.underlying0
  a0 := Tryz.isAgg0
  z0 := Tryz.sizeOf0
  v0 := Tryz.zeroValue0
  t2 := Tryz.underlying2
  a2 := Tryz.isAgg2
  z2 := Tryz.sizeOf2
  v2 := Tryz.zeroValue2
  t3 := Tryz.underlying3
  a3 := Tryz.isAgg3
  z3 := Tryz.sizeOf3
  v3 := Tryz.zeroValue3
  t4 := Tryz.underlying4
  a4 := Tryz.isAgg4
  z4 := Tryz.sizeOf4
  v4 := Tryz.zeroValue4
  t5 := Tryz.underlying5
  a5 := Tryz.isAgg5
  z5 := Tryz.sizeOf5
  v5 := Tryz.zeroValue5
  t9 := Tryz.underlying9
  a9 := Tryz.isAgg9
  z9 := Tryz.sizeOf9
  v9 := Tryz.zeroValue9
  t20 := Tryz.underlying20
  a20 := Tryz.isAgg20
  z20 := Tryz.sizeOf20
  v20 := Tryz.zeroValue20
  t21 := Tryz.underlying21
  a21 := Tryz.isAgg21
  z21 := Tryz.sizeOf21
  v21 := Tryz.zeroValue21
  t37 := Tryz.underlying56
  a37 := Tryz.isAgg56
  z37 := Tryz.sizeOf56
  v37 := Tryz.zeroValue56
  t46 := Tryz.underlying127
  a46 := Tryz.isAgg127
  z46 := Tryz.sizeOf127
  v46 := Tryz.zeroValue127
  t51 := Tryz.underlying142
  a51 := Tryz.isAgg142
  z51 := Tryz.sizeOf142
  v51 := Tryz.zeroValue142
  t53 := Tryz.underlying116
  a53 := Tryz.isAgg116
  z53 := Tryz.sizeOf116
  v53 := Tryz.zeroValue116
  t75 := Tryz.underlying60
  a75 := Tryz.isAgg60
  z75 := Tryz.sizeOf60
  v75 := Tryz.zeroValue60
  t76 := Tryz.underlying61
  a76 := Tryz.isAgg61
  z76 := Tryz.sizeOf61
  v76 := Tryz.zeroValue61
  t85 := Tryz.underlying97
  a85 := Tryz.isAgg97
  z85 := Tryz.sizeOf97
  v85 := Tryz.zeroValue97
  t127 := Tryz.underlying84
  a127 := Tryz.isAgg84
  z127 := Tryz.sizeOf84
  v127 := Tryz.zeroValue84
  t143 := Tryz.underlying146
  a143 := Tryz.isAgg146
  z143 := Tryz.sizeOf146
  v143 := Tryz.zeroValue146
  t145 := Tryz.underlying148
  a145 := Tryz.isAgg148
  z145 := Tryz.sizeOf148
  v145 := Tryz.zeroValue148
  t167 := Tryz.underlying96
  a167 := Tryz.isAgg96
  z167 := Tryz.sizeOf96
  v167 := Tryz.zeroValue96
  t168 := Tryz.underlying99
  a168 := Tryz.isAgg99
  z168 := Tryz.sizeOf99
  v168 := Tryz.zeroValue99
  t171 := Tryz.underlying115
  a171 := Tryz.isAgg115
  z171 := Tryz.sizeOf115
  v171 := Tryz.zeroValue115
  t173 := Tryz.underlying119
  a173 := Tryz.isAgg119
  z173 := Tryz.sizeOf119
  v173 := Tryz.zeroValue119
  t175 := Tryz.underlying125
  a175 := Tryz.isAgg125
  z175 := Tryz.sizeOf125
  v175 := Tryz.zeroValue125
  t210 := Tryz.underlying130
  a210 := Tryz.isAgg130
  z210 := Tryz.sizeOf130
  v210 := Tryz.zeroValue130
  t212 := Tryz.underlying141
  a212 := Tryz.isAgg141
  z212 := Tryz.sizeOf141
  v212 := Tryz.zeroValue141
  t213 := Tryz.underlying143
  a213 := Tryz.isAgg143
  z213 := Tryz.sizeOf143
  t232 := Tryz.underlying171
  a232 := Tryz.isAgg171
  z232 := Tryz.sizeOf171
  v232 := Tryz.zeroValue171
  t233 := Tryz.underlying172
  a233 := Tryz.isAgg172
  z233 := Tryz.sizeOf172
  v233 := Tryz.zeroValue172
  g15 := by kernel_rfl
  g16 := by kernel_rfl
  g17 := by kernel_rfl
  g18 := by kernel_rfl
  g19 := by kernel_rfl
  t80 := Tryz.underlying68
  a80 := Tryz.isAgg68
  z80 := Tryz.sizeOf68
  v80 := Tryz.zeroValue68
  i0 := by kernel_rfl
  i2 := by kernel_rfl
  i3 := by kernel_rfl
  i4 := by kernel_rfl
  i5 := by kernel_rfl
  i9 := by kernel_rfl
  i20 := by kernel_rfl
  i21 := by kernel_rfl
  i37 := by kernel_rfl
  i46 := by kernel_rfl
  i51 := by kernel_rfl
  i53 := by kernel_rfl
  i75 := by kernel_rfl
  i76 := by kernel_rfl
  i80 := by kernel_rfl
  i85 := by kernel_rfl
  i127 := by kernel_rfl
  i143 := by kernel_rfl
  i145 := by kernel_rfl
  i167 := by kernel_rfl
  i168 := by kernel_rfl
  i171 := by kernel_rfl
  i173 := by kernel_rfl
  i175 := by kernel_rfl
  i210 := by kernel_rfl
  i212 := by kernel_rfl
  i232 := by kernel_rfl
  i233 := by kernel_rfl
  m15 := by kernel_rfl
  m16 := by kernel_rfl
  m17 := by kernel_rfl
  m18 := by kernel_rfl
  m19 := by kernel_rfl
  c0 := by kernel_rfl
  c2 := by kernel_rfl
  c3 := by kernel_rfl
  c4 := by kernel_rfl
  c5 := by kernel_rfl
  c9 := by kernel_rfl
  c20 := by kernel_rfl
  c21 := by kernel_rfl
  c37 := by kernel_rfl
  c46 := by kernel_rfl
  c51 := by kernel_rfl
  c53 := by kernel_rfl
  c75 := by kernel_rfl
  c76 := by kernel_rfl
  c80 := by kernel_rfl
  c85 := by kernel_rfl
  c127 := by kernel_rfl
  c143 := by kernel_rfl
  c145 := by kernel_rfl
  c167 := by kernel_rfl
  c168 := by kernel_rfl
  c171 := by kernel_rfl
  c173 := by kernel_rfl
  c175 := by kernel_rfl
  c210 := by kernel_rfl
  c212 := by kernel_rfl
  c213 := by kernel_rfl
  c232 := by kernel_rfl
  c233 := by kernel_rfl
end Hw.Mq
/- The library's functions at this program: their numbers. -/
namespace Hw.Mq
open Go Go.Proofs Go.Shelf
def laysItoa_ren : Go.Shelf.Ren := ⟨fun | 171 => 23 | 243 => 46 | 246 => 62 | 283 => 84 | 284 => 85 | 285 => 86 | 286 => 87 | 129 => 106 | 317 => 105 | 318 => 107 | 319 => 108 | 320 => 109 | 337 => 130 | 338 => 131 | n => n, fun | 3 => 3 | 9 => 9 | 2 => 2 | 4 => 4 | 171 => 115 | 0 => 0 | 53 => 116 | 37 => 56 | 5 => 5 | 173 => 119 | 212 => 141 | 51 => 142 | 20 => 20 | 213 => 143 | 46 => 127 | 232 => 171 | 233 => 172 | n => n, fun | 17 => 2 | 18 => 6 | 19 => 7 | n => n⟩
theorem laysItoa : Go.Proofs.LaysM.n171 Tryz.prog laysItoa_ren where
  mixed := by kernel_rfl
  f129 := Tryz.func106.trans (congrArg some (by kernel_rfl))
  f171 := Tryz.func23.trans (congrArg some (by kernel_rfl))
  f243 := Tryz.func46.trans (congrArg some (by kernel_rfl))
  f246 := Tryz.func62.trans (congrArg some (by kernel_rfl))
  f283 := Tryz.func84.trans (congrArg some (by kernel_rfl))
  f284 := Tryz.func85.trans (congrArg some (by kernel_rfl))
  f285 := Tryz.func86.trans (congrArg some (by kernel_rfl))
  f286 := Tryz.func87.trans (congrArg some (by kernel_rfl))
  f317 := Tryz.func105.trans (congrArg some (by kernel_rfl))
  f318 := Tryz.func107.trans (congrArg some (by kernel_rfl))
  f319 := Tryz.func108.trans (congrArg some (by kernel_rfl))
  f320 := Tryz.func109.trans (congrArg some (by kernel_rfl))
  f337 := Tryz.func130.trans (congrArg some (by kernel_rfl))
  f338 := Tryz.func131.trans (congrArg some (by kernel_rfl))
  t0 := Tryz.underlying0
  a0 := Tryz.isAgg0
  z0 := Tryz.sizeOf0
  v0 := Tryz.zeroValue0
  t2 := Tryz.underlying2
  a2 := Tryz.isAgg2
  z2 := Tryz.sizeOf2
  v2 := Tryz.zeroValue2
  t3 := Tryz.underlying3
  a3 := Tryz.isAgg3
  z3 := Tryz.sizeOf3
  v3 := Tryz.zeroValue3
  t4 := Tryz.underlying4
  a4 := Tryz.isAgg4
  z4 := Tryz.sizeOf4
  v4 := Tryz.zeroValue4
  t5 := Tryz.underlying5
  a5 := Tryz.isAgg5
  z5 := Tryz.sizeOf5
  v5 := Tryz.zeroValue5
  t9 := Tryz.underlying9
  a9 := Tryz.isAgg9
  z9 := Tryz.sizeOf9
  v9 := Tryz.zeroValue9
  t20 := Tryz.underlying20
  a20 := Tryz.isAgg20
  z20 := Tryz.sizeOf20
  v20 := Tryz.zeroValue20
  t37 := Tryz.underlying56
  a37 := Tryz.isAgg56
  z37 := Tryz.sizeOf56
  v37 := Tryz.zeroValue56
  t46 := Tryz.underlying127
  a46 := Tryz.isAgg127
  z46 := Tryz.sizeOf127
  v46 := Tryz.zeroValue127
  t51 := Tryz.underlying142
  a51 := Tryz.isAgg142
  z51 := Tryz.sizeOf142
  v51 := Tryz.zeroValue142
  t53 := Tryz.underlying116
  a53 := Tryz.isAgg116
  z53 := Tryz.sizeOf116
  v53 := Tryz.zeroValue116
  t171 := Tryz.underlying115
  a171 := Tryz.isAgg115
  z171 := Tryz.sizeOf115
  v171 := Tryz.zeroValue115
  t173 := Tryz.underlying119
  a173 := Tryz.isAgg119
  z173 := Tryz.sizeOf119
  v173 := Tryz.zeroValue119
  t212 := Tryz.underlying141
  a212 := Tryz.isAgg141
  z212 := Tryz.sizeOf141
  v212 := Tryz.zeroValue141
  t213 := Tryz.underlying143
  a213 := Tryz.isAgg143
  z213 := Tryz.sizeOf143
  t232 := Tryz.underlying171
  a232 := Tryz.isAgg171
  z232 := Tryz.sizeOf171
  v232 := Tryz.zeroValue171
  t233 := Tryz.underlying172
  a233 := Tryz.isAgg172
  z233 := Tryz.sizeOf172
  v233 := Tryz.zeroValue172
  g17 := by kernel_rfl
  g18 := by kernel_rfl
  g19 := by kernel_rfl
  i0 := by kernel_rfl
  i2 := by kernel_rfl
  i3 := by kernel_rfl
  i4 := by kernel_rfl
  i5 := by kernel_rfl
  i9 := by kernel_rfl
  i20 := by kernel_rfl
  i37 := by kernel_rfl
  i46 := by kernel_rfl
  i51 := by kernel_rfl
  i53 := by kernel_rfl
  i171 := by kernel_rfl
  i173 := by kernel_rfl
  i212 := by kernel_rfl
  i232 := by kernel_rfl
  i233 := by kernel_rfl
  m17 := by kernel_rfl
  m18 := by kernel_rfl
  m19 := by kernel_rfl
end Hw.Mq
/- The library's functions at this program: their numbers. -/
namespace Hw.Mq
open Go Go.Proofs Go.Shelf
def laysSplit_ren : Go.Shelf.Ren := ⟨fun | 146 => 25 | 221 => 47 | 268 => 63 | 138 => 64 | 143 => 65 | 195 => 88 | 197 => 89 | 218 => 90 | 219 => 91 | 260 => 110 | 217 => 111 | 225 => 112 | 224 => 113 | 267 => 114 | 266 => 132 | 314 => 133 | n => n, fun | 9 => 9 | 31 => 69 | 3 => 3 | 4 => 4 | 0 => 0 | 105 => 122 | 21 => 21 | 5 => 5 | 46 => 127 | 119 => 159 | 139 => 162 | 138 => 161 | 146 => 163 | 51 => 142 | n => n, fun | 1 => 3 | 3 => 4 | 4 => 5 | n => n⟩
theorem laysSplit : Go.Proofs.Lays.n146 Tryz.prog laysSplit_ren where
  mixed := by kernel_rfl
  f138 := Tryz.func64.trans (congrArg some (by kernel_rfl))
  f143 := Tryz.func65.trans (congrArg some (by kernel_rfl))
  f146 := Tryz.func25.trans (congrArg some (by kernel_rfl))
  f195 := Tryz.func88.trans (congrArg some (by kernel_rfl))
  f197 := Tryz.func89.trans (congrArg some (by kernel_rfl))
  f217 := Tryz.func111.trans (congrArg some (by kernel_rfl))
  f218 := Tryz.func90.trans (congrArg some (by kernel_rfl))
  f219 := Tryz.func91.trans (congrArg some (by kernel_rfl))
  f221 := Tryz.func47.trans (congrArg some (by kernel_rfl))
  f224 := Tryz.func113.trans (congrArg some (by kernel_rfl))
  f225 := Tryz.func112.trans (congrArg some (by kernel_rfl))
  f260 := Tryz.func110.trans (congrArg some (by kernel_rfl))
  f266 := Tryz.func132.trans (congrArg some (by kernel_rfl))
  f267 := Tryz.func114.trans (congrArg some (by kernel_rfl))
  f268 := Tryz.func63.trans (congrArg some (by kernel_rfl))
  f314 := Tryz.func133.trans (congrArg some (by kernel_rfl))
  t0 := Tryz.underlying0
  a0 := Tryz.isAgg0
  z0 := Tryz.sizeOf0
  v0 := Tryz.zeroValue0
  t3 := Tryz.underlying3
  a3 := Tryz.isAgg3
  z3 := Tryz.sizeOf3
  v3 := Tryz.zeroValue3
  t4 := Tryz.underlying4
  a4 := Tryz.isAgg4
  z4 := Tryz.sizeOf4
  v4 := Tryz.zeroValue4
  t5 := Tryz.underlying5
  a5 := Tryz.isAgg5
  z5 := Tryz.sizeOf5
  v5 := Tryz.zeroValue5
  t9 := Tryz.underlying9
  a9 := Tryz.isAgg9
  z9 := Tryz.sizeOf9
  v9 := Tryz.zeroValue9
  t21 := Tryz.underlying21
  a21 := Tryz.isAgg21
  z21 := Tryz.sizeOf21
  v21 := Tryz.zeroValue21
  t31 := Tryz.underlying69
  a31 := Tryz.isAgg69
  z31 := Tryz.sizeOf69
  v31 := Tryz.zeroValue69
  t46 := Tryz.underlying127
  a46 := Tryz.isAgg127
  z46 := Tryz.sizeOf127
  v46 := Tryz.zeroValue127
  t51 := Tryz.underlying142
  a51 := Tryz.isAgg142
  z51 := Tryz.sizeOf142
  v51 := Tryz.zeroValue142
  t105 := Tryz.underlying122
  a105 := Tryz.isAgg122
  z105 := Tryz.sizeOf122
  v105 := Tryz.zeroValue122
  t119 := Tryz.underlying159
  a119 := Tryz.isAgg159
  z119 := Tryz.sizeOf159
  t138 := Tryz.underlying161
  a138 := Tryz.isAgg161
  z138 := Tryz.sizeOf161
  v138 := Tryz.zeroValue161
  t139 := Tryz.underlying162
  a139 := Tryz.isAgg162
  z139 := Tryz.sizeOf162
  v139 := Tryz.zeroValue162
  t146 := Tryz.underlying163
  a146 := Tryz.isAgg163
  z146 := Tryz.sizeOf163
  v146 := Tryz.zeroValue163
  g1 := by kernel_rfl
  g3 := by kernel_rfl
  g4 := by kernel_rfl
end Hw.Mq
namespace Hw.Mq
open Go Go.Proofs Go.Shelf Hw.M

/-! operations as text: bytes; the library's Split and Atoi -/
abbrev By := List UInt8
def strOf (l : By) : Str := ⟨l.toArray⟩
def lst (s : Str) : By := s.data.toList
theorem str_lst (s : Str) : strOf (lst s) = s := by cases s; simp [strOf, lst]
theorem lst_str (l : By) : lst (strOf l) = l := by simp [strOf, lst]
theorem lst_len (s : Str) : (lst s).length = s.size := by simp only [lst, Array.length_toList]; rfl
theorem str_size (l : By) : (strOf l).size = l.length := by rw [← lst_len, lst_str]
theorem lst_app (a b : Str) : lst (a ++ b) = lst a ++ lst b := by simp only [lst, ByteArray.data_append, Array.toList_append]
theorem lst_inj {a b : Str} (h : lst a = lst b) : a = b := by rw [← str_lst a, h, str_lst]
theorem lst_at {s : Str} {i : Nat} {b : UInt8} (h : (lst s)[i]? = some b) : s[((i : Nat) : Int).toNat]? = some b := by
  have hlt : i < s.data.size := by
    have := (List.getElem?_eq_some_iff.1 h).1
    simpa [lst] using this
  have : s.data[i] = b := by unfold lst at h; rw [Array.getElem?_toList, Array.getElem?_eq_getElem hlt] at h; exact Option.some.inj h
  have hlt' : i < s.size := hlt
  simp only [Int.toNat_natCast]
  rw [getElem?_pos s i hlt']
  exact congrArg some this
theorem callOKL {f : FuncId} {fn : Func} (h : Tryz.prog.funcs[f]? = some fn) (h1 : (fn.name == "runtime.NumGoroutine") = false) (h2 : fn.body.isNone = false) : CallOK Tryz.prog f := ⟨fn, h, h1, h2⟩
/-! strconv.Atoi -/
theorem atoi_ok {s : Str} {v : Int} (h : Lib.atoiAll (lst s) = .ok v) (hs : s.size ≤ 1000000) : FnOK Tryz.prog 28 [Sr s] [] (.tup [I v, .one (.p (.k .nilIface))]) [] := by
  refine ⟨callOKL Tryz.func28 (by kernel_rfl) (by kernel_rfl), fun M ρ w xs hx _ hI hG => ?_⟩
  obtain rfl := reps_k (av := [.string s]) hx
  refine (Any.strconv_Atoi_ok laysAtoi s (by omega) v h w).mono fun e w' ⟨he, hw⟩ => ?_
  have hb : RowKit.Below w.heap.size w w' := by
    rcases hw with rfl | ⟨t, rfl⟩
    · exact RowKit.Below.refl _ _
    · exact Lib.bytesWorld_below w _ t
  exact ⟨_, M, ρ, he, ret_below hI hb (by simp only [RepS]; exact ⟨[.int .i64 v, .nilIface], rfl, by simp only [RepSs, RepS, RepV, RepPV]; exact ⟨⟨trivial, rfl⟩, ⟨trivial, rfl⟩, trivial⟩⟩)⟩
theorem atoi_err {s : Str} {z : Int} {gv : Nat} (hg : gv ∈ G3) (h : ∀ (ev : Value) (w : World), w.cell? ⟨gv, 0, none⟩ = some ev → (ev = .nilIface ∨ ∃ te pe, ev = .iface te pe) →
    Calls Tryz.prog 28 #[.string s] w fun e w' => ∃ N, e = .returned (.tuple #[.int .i64 z, .iface (laysAtoi_ren.t 168) (.pointer (some ⟨N, 0, none⟩))]) ∧ RowKit.Below w.heap.size w w') :
    FnOK Tryz.prog 28 [Sr s] [] (.tup [I z, .one (.ar 0)]) [(0, .ifc)] := by
  refine ⟨callOKL Tryz.func28 (by kernel_rfl) (by kernel_rfl), fun M ρ w xs hx hT hI hG => ?_⟩
  obtain rfl := reps_k (av := [.string s]) hx
  obtain ⟨te, pe, hev⟩ := hG.er gv hg
  have hv := hI _ _ _ hev
  refine (h _ w hv (.inr ⟨te, pe, rfl⟩)).mono fun e w' ⟨N, he, hb⟩ => ?_
  have only : ∀ i r, tg (tb [(0, Res.ifc)]) i = some r → i = 0 ∧ r = .ifc := fun i r hi => by
    simp only [tb, tg_cons] at hi
    split at hi
    · rename_i e; exact ⟨e.symm, (Option.some.inj hi).symm⟩
    · cases hi
  have nob : ∀ {i r b}, tg (tb [(0, Res.ifc)]) i = some r → Bk (upd ρ 0 (.iface (laysAtoi_ren.t 168) (.pointer (some ⟨N, 0, none⟩))) i) b → False := fun {i r b} hi hb => by
    obtain ⟨rfl, _⟩ := only i r hi
    rw [upd_same] at hb
    simp [Bk, blk] at hb
  refine ⟨_, M, upd ρ 0 (.iface (laysAtoi_ren.t 168) (.pointer (some ⟨N, 0, none⟩))), he, ?_⟩
  refine ⟨?_, ⟨fun i r hi => ?_, fun i j ri rj b hi _ _ hb _ => nob hi hb, fun i r b hi hb => (nob hi hb).elim⟩, fun b o u hu => by rw [cell_of_heap (hb.block b (cell_lt (hI b o u hu)))]; exact hI b o u hu, MLe.refl M, fun b o u hu => .inl hu,
    fun b ⟨i, r, hi, hb⟩ => (nob hi hb).elim, fun b h _ => hb.block b h, hb.size, hb.os, hb.tape, hb.output, fun id hid => by simp [RL.ids] at hid⟩
  · simp only [RepS]
    exact ⟨[.int .i64 z, .iface (laysAtoi_ren.t 168) (.pointer (some ⟨N, 0, none⟩))], rfl, by simp only [RepSs, RepS, RepV, RepPV]; exact ⟨⟨trivial, rfl⟩, ⟨by rw [upd_same], rfl⟩, trivial⟩⟩
  · obtain ⟨rfl, rfl⟩ := only i r hi
    exact ⟨_, _, upd_same _ _ _⟩
theorem atoi_bad {s : Str} (h : ∀ v, Lib.atoiAll (lst s) ≠ .ok v) (hs : s.size ≤ 1000000) : ∃ z, FnOK Tryz.prog 28 [Sr s] [] (.tup [I z, .one (.ar 0)]) [(0, .ifc)] := by
  cases hh : Lib.atoiAll (lst s)
  · exact absurd hh (h _)
  · exact ⟨0, atoi_err (gv := 0) (by simp [G3]) fun ev w hv hev => (Any.strconv_Atoi_syntax laysAtoi s (by omega) hh ev w hv hev).mono fun e w' ⟨N, he, _, _, hb⟩ => ⟨N, he, hb⟩⟩
  · exact ⟨_, atoi_err (gv := 1) (by simp [G3]) fun ev w hv hev => (Any.strconv_Atoi_range laysAtoi s (by omega) hh ev w hv hev).mono fun e w' ⟨N, he, _, _, hb⟩ => ⟨N, he, hb⟩⟩
/-! strings.Split at blanks -/
def blank : Str := (⟨#[32]⟩ : ByteArray)
def pcs (s : Str) : List Str := Lib.splitB blank 0 (Lib.countB s blank) s
theorem pcs_len (s : Str) : (pcs s).length = Lib.countB s blank + 1 := Lib.splitB_all blank (by decide) 0 _ s rfl
theorem fn_strsW {P : Program} {f : FuncId} {s u : ByteArray} {l : List ByteArray} {el : TypeId} (hc : CallOK P f) (hl : l.length ≤ 9223372036854775807)
    (h : ∀ w : World, GOw w → Calls P f #[.string s, .string u] w fun e w' => e = .returned (.slice (some ⟨w.heap.size, 0, none⟩) l.length l.length) ∧ w' = w.alloc (.cells (l.map Value.string).toArray el)) :
    FnOK P f [Sr s, Sr u] [] (.one (.p (.sl 1 (l.map fun x => [PV.k (.string x)])))) [] := by
  refine ⟨hc, fun M ρ w xs hx hT hI hG => ?_⟩
  obtain rfl := reps_k (av := [.string s, .string u]) hx
  refine (h w (gow_of hI hG)).mono fun e w' ⟨he, hw⟩ => ?_
  subst he; subst hw
  have key : ∀ (M' : Mem) (l : List ByteArray), RepVs M' ρ ((l.map fun x => [PV.k (.string x)]).flatten.map V.p) (l.map Value.string) := fun M' l => by
    induction l with
    | nil => simp [RepVs]
    | cons a l ih => simp only [List.map_cons, List.flatten_cons, List.singleton_append, RepVs, RepV, RepPV]; exact ⟨⟨trivial, rfl⟩, ih⟩
  have mlt : ∀ b o u, M b o = some u → b < w.heap.size := fun b o u hu => cell_lt (hI b o u hu)
  refine ⟨_, addM M w.heap.size (l.map Value.string), ρ, rfl, ?_⟩
  refine ⟨?_, ⟨fun _ _ h => (by cases h), fun _ _ _ _ _ h => (by cases h), fun _ _ _ h => (by cases h)⟩, fun b o v hv => ?_, addM_le hI, fun b o u hu => ?_, fun b hb => ?_, fun b hb _ => heap_push_old w _ b hb, by simp, rfl, rfl, rfl, fun id hid => rfl⟩
  · simp only [RepS, RepV, RepPV]
    refine ⟨some ⟨w.heap.size, 0, none⟩, l.length, by rw [List.length_map], by rw [List.length_map]; exact Nat.le_refl _, by rw [List.length_map]; exact hl, .inr ⟨w.heap.size, 0, rfl, ?_⟩⟩
    refine RowsIn.of_cells (ρ := ρ) (cs := l.map Value.string) (fun r hr => ?_) ?_ (fun j c hc => ?_)
    · simp only [List.mem_map] at hr; obtain ⟨_, _, rfl⟩ := hr; rfl
    · exact key _ l
    · simp only [addM, if_true, Nat.zero_add]; exact hc
  · simp only [addM] at hv
    split at hv
    · rename_i e; subst e
      simp only [World.cell?, heap_push_new]
      simpa using hv
    · rw [cell_of_heap (heap_push_old w _ b (mlt b o v hv))]; exact hI b o v hv
  · simp only [addM] at hu
    split at hu
    · rename_i e; subst e; exact .inr (.inl (Nat.le_refl _))
    · exact .inl hu
  · obtain ⟨i, r, h1, _⟩ := hb; cases h1
theorem split_ok (s : Str) (hs : s.size ≤ 1000000) : FnOK Tryz.prog 25 [Sr s, Sr (⟨#[32]⟩ : ByteArray)] [] (pS (strsP (pcs s))) [] := by
  have hle := Lib.countB_le blank (by decide) s.size s (Nat.le_refl _)
  refine fn_strsW (l := pcs s) (el := laysSplit_ren.t 9) (callOKL Tryz.func25 (by kernel_rfl) (by kernel_rfl)) (by rw [pcs_len]; omega) fun w hw => ?_
  obtain ⟨m, hm⟩ := hw.2.1 3 (by simp [G1])
  rw [pcs_len]
  exact Any.strings_Split laysSplit (by kernel_rfl) s blank m w (by omega) hm (by decide)
end Hw.Mq
