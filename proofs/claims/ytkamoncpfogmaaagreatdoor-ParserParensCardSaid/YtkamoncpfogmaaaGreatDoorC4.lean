/- The engine and the contracts. -/
import Derived.Test.YtkamoncpfogmaaaGreatDoorC3
import Derived.Test.YtkamoncpfogmaaaGreatDoorProg
import Derived.KernelRfl
import Derived.Shelf.Small.Strs
import Derived.Shelf.Strings.Prefix
import Derived.Shelf.Strconv.AtoiAll
import Derived.Test.YtkamoncpfogmaaaGreatDoorC1
import Derived.Test.YtkamoncpfogmaaaGreatDoorC2
import Derived.Test.YtkamoncpfogmaaaGreatDoorE3
set_option linter.unusedVariables false
set_option linter.unusedSimpArgs false
namespace Hw.Pa
open Go Go.Proofs Hw.M

def fixZ (l : List Tok) (op : Int) : Nat → Nat → Nat → List Ex → Ex
  | 0, _, _, _ => E0
  | f + 1, k, i, acc => if k = 0 then .mk op 0 (⟨#[]⟩ : ByteArray) acc
    else match oneA l (if acc.length = 0 then (⟨#[40]⟩ : ByteArray) else (⟨#[44]⟩ : ByteArray)) i with
      | .ok _ i => match exprA l f 0 i with
        | .ok x i => fixZ l op f (k - 1) i (acc ++ [x])
        | _ => E0
      | _ => E0
section
variable {l : List Tok} (hl : GoodL l)
include hl
end
end Hw.Pa
namespace Hw.Pa
open Go Go.Proofs Hw.M

section
variable {l : List Tok} (hl : GoodL l)
include hl
end
end Hw.Pa
/- The library's functions at this program: their numbers. -/
namespace Hw.Pa
open Go Go.Proofs Go.Shelf
def laysIdx_ren : Go.Shelf.Ren := ⟨fun | 137 => 97 | 217 => 140 | 266 => 161 | n => n, fun | 9 => 9 | 5 => 5 | 3 => 3 | n => n, fun | n => n⟩
theorem laysIdx : Go.Proofs.Lays.n137 Tryz.prog laysIdx_ren where
  mixed := by kernel_rfl
  f137 := Tryz.func97.trans (congrArg some (by kernel_rfl))
  f217 := Tryz.func140.trans (congrArg some (by kernel_rfl))
  f266 := Tryz.func161.trans (congrArg some (by kernel_rfl))
  t3 := Tryz.underlying3
  a3 := Tryz.isAgg3
  z3 := Tryz.sizeOf3
  v3 := Tryz.zeroValue3
  t5 := Tryz.underlying5
  a5 := Tryz.isAgg5
  z5 := Tryz.sizeOf5
  v5 := Tryz.zeroValue5
  t9 := Tryz.underlying9
  a9 := Tryz.isAgg9
  z9 := Tryz.sizeOf9
  v9 := Tryz.zeroValue9
def laysPre_ren : Go.Shelf.Ren := ⟨fun | 99 => 96 | 206 => 139 | n => n, fun | 9 => 9 | 4 => 4 | 3 => 3 | n => n, fun | n => n⟩
theorem laysPre : Go.Proofs.Lays.n99 Tryz.prog laysPre_ren where
  mixed := by kernel_rfl
  f99 := Tryz.func96.trans (congrArg some (by kernel_rfl))
  f206 := Tryz.func139.trans (congrArg some (by kernel_rfl))
  t3 := Tryz.underlying3
  a3 := Tryz.isAgg3
  z3 := Tryz.sizeOf3
  v3 := Tryz.zeroValue3
  t4 := Tryz.underlying4
  a4 := Tryz.isAgg4
  z4 := Tryz.sizeOf4
  v4 := Tryz.zeroValue4
  t9 := Tryz.underlying9
  a9 := Tryz.isAgg9
  z9 := Tryz.sizeOf9
  v9 := Tryz.zeroValue9
end Hw.Pa
/- The library's functions at this program: their numbers. -/
namespace Hw.Pa
open Go Go.Proofs Go.Shelf
def laysAtoi_ren : Go.Shelf.Ren := ⟨fun | 172 => 138 | 244 => 159 | 245 => 160 | 247 => 176 | 279 => 177 | 280 => 178 | 281 => 179 | 282 => 180 | 287 => 189 | 316 => 190 | 171 => 59 | 205 => 191 | 321 => 196 | 322 => 197 | 243 => 99 | 246 => 142 | 283 => 162 | 284 => 163 | 285 => 164 | 286 => 165 | 129 => 182 | 317 => 181 | 318 => 183 | 319 => 184 | 320 => 185 | 337 => 192 | 338 => 193 | n => n, fun | 9 => 9 | 3 => 3 | 75 => 122 | 76 => 124 | 4 => 4 | 5 => 5 | 167 => 214 | 37 => 118 | 0 => 0 | 85 => 215 | 2 => 2 | 168 => 217 | 53 => 198 | 175 => 232 | 46 => 194 | 210 => 235 | 127 => 154 | 145 => 252 | 143 => 250 | 21 => 21 | 171 => 197 | 173 => 201 | 212 => 221 | 51 => 222 | 20 => 20 | 213 => 223 | 232 => 253 | 233 => 254 | 80 => 75 | n => n, fun | 15 => 4 | 16 => 5 | 17 => 2 | 18 => 6 | 19 => 7 | n => n⟩
theorem laysAtoi : Go.Proofs.LaysC.n172 Tryz.prog laysAtoi_ren where
  mixed := by kernel_rfl
  f129 := Tryz.func182.trans (congrArg some (by kernel_rfl))
  f171 := Tryz.func59.trans (congrArg some (by kernel_rfl))
  f172 := Tryz.func138.trans (congrArg some (by kernel_rfl))
  f205 := Tryz.func191.trans (congrArg some (by kernel_rfl))
  f243 := Tryz.func99.trans (congrArg some (by kernel_rfl))
  f244 := Tryz.func159.trans (congrArg some (by kernel_rfl))
  f245 := Tryz.func160.trans (congrArg some (by kernel_rfl))
  f246 := Tryz.func142.trans (congrArg some (by kernel_rfl))
  f247 := Tryz.func176.trans (congrArg some (by kernel_rfl))
  f279 := Tryz.func177.trans (congrArg some (by kernel_rfl))
  f280 := Tryz.func178.trans (congrArg some (by kernel_rfl))
  f281 := Tryz.func179.trans (congrArg some (by kernel_rfl))
  f282 := Tryz.func180.trans (congrArg some (by kernel_rfl))
  f283 := Tryz.func162.trans (congrArg some (by kernel_rfl))
  f284 := Tryz.func163.trans (congrArg some (by kernel_rfl))
  f285 := Tryz.func164.trans (congrArg some (by kernel_rfl))
  f286 := Tryz.func165.trans (congrArg some (by kernel_rfl))
  f287 := Tryz.func189.trans (congrArg some (by kernel_rfl))
  f316 := Tryz.func190.trans (congrArg some (by kernel_rfl))
  f317 := Tryz.func181.trans (congrArg some (by kernel_rfl))
  f318 := Tryz.func183.trans (congrArg some (by kernel_rfl))
  f319 := Tryz.func184.trans (congrArg some (by kernel_rfl))
  f320 := Tryz.func185.trans (congrArg some (by kernel_rfl))
  f321 := Tryz.func196.trans (congrArg some (by kernel_rfl))
  f322 := Tryz.func197.trans (congrArg some (by kernel_rfl))
  f337 := Tryz.func192.trans (congrArg some (by kernel_rfl))
  f338 := Tryz.func193.trans (congrArg some (by kernel_rfl))
  t0 := Tryz.underlying0
  a0 := Tryz.isAgg0
  z0 := Tryz.sizeOf0
  v0 := Tryz.zeroValue0
  t2 := Tryz.underlying2
  a2 := Tryz.isAgg2
  z2 := Tryz.sizeOf2
  v2 := Tryz.zeroValue2
  t3 := Tryz.underlying3
  a3 := Tryz.isAgg3
  z3 := Tryz.sizeOf3
  v3 := Tryz.zeroValue3
  t4 := Tryz.underlying4
  a4 := Tryz.isAgg4
  z4 := Tryz.sizeOf4
  v4 := Tryz.zeroValue4
  t5 := Tryz.underlying5
  a5 := Tryz.isAgg5
  z5 := Tryz.sizeOf5
  v5 := Tryz.zeroValue5
  t9 := Tryz.underlying9
  a9 := Tryz.isAgg9
  z9 := Tryz.sizeOf9
  v9 := Tryz.zeroValue9
  t20 := Tryz.underlying20
  a20 := Tryz.isAgg20
  z20 := Tryz.sizeOf20
  v20 := Tryz.zeroValue20
  t21 := Tryz.underlying21
  a21 := Tryz.isAgg21
  z21 := Tryz.sizeOf21
  v21 := Tryz.zeroValue21
  t37 := Tryz.underlying118
  a37 := Tryz.isAgg118
  z37 := Tryz.sizeOf118
  v37 := Tryz.zeroValue118
  t46 := Tryz.underlying194
  a46 := Tryz.isAgg194
  z46 := Tryz.sizeOf194
  v46 := Tryz.zeroValue194
  t51 := Tryz.underlying222
  a51 := Tryz.isAgg222
  z51 := Tryz.sizeOf222
  v51 := Tryz.zeroValue222
  t53 := Tryz.underlying198
  a53 := Tryz.isAgg198
  z53 := Tryz.sizeOf198
  v53 := Tryz.zeroValue198
  t75 := Tryz.underlying122
  a75 := Tryz.isAgg122
  z75 := Tryz.sizeOf122
  v75 := Tryz.zeroValue122
  t76 := Tryz.underlying124
  a76 := Tryz.isAgg124
  z76 := Tryz.sizeOf124
  v76 := Tryz.zeroValue124
  t85 := Tryz.underlying215
  a85 := Tryz.isAgg215
  z85 := Tryz.sizeOf215
  v85 := Tryz.zeroValue215
  t127 := Tryz.underlying154
  a127 := Tryz.isAgg154
  z127 := Tryz.sizeOf154
  v127 := Tryz.zeroValue154
  t143 := Tryz.underlying250
  a143 := Tryz.isAgg250
  z143 := Tryz.sizeOf250
  v143 := Tryz.zeroValue250
  t145 := Tryz.underlying252
  a145 := Tryz.isAgg252
  z145 := Tryz.sizeOf252
  v145 := Tryz.zeroValue252
  t167 := Tryz.underlying214
  a167 := Tryz.isAgg214
  z167 := Tryz.sizeOf214
  v167 := Tryz.zeroValue214
  t168 := Tryz.underlying217
  a168 := Tryz.isAgg217
  z168 := Tryz.sizeOf217
  v168 := Tryz.zeroValue217
  t171 := Tryz.underlying197
  a171 := Tryz.isAgg197
  z171 := Tryz.sizeOf197
  v171 := Tryz.zeroValue197
  t173 := Tryz.underlying201
  a173 := Tryz.isAgg201
  z173 := Tryz.sizeOf201
  v173 := Tryz.zeroValue201
  t175 := Tryz.underlying232
  a175 := Tryz.isAgg232
  z175 := Tryz.sizeOf232
  v175 := Tryz.zeroValue232
  t210 := Tryz.underlying235
  a210 := Tryz.isAgg235
  z210 := Tryz.sizeOf235
  v210 := Tryz.zeroValue235
  t212 := Tryz.underlying221
  a212 := Tryz.isAgg221
  z212 := Tryz.sizeOf221
  v212 := Tryz.zeroValue221
  t213 := Tryz.underlying223
  a213 := Tryz.isAgg223
  z213 := Tryz.sizeOf223
  t232 := Tryz.underlying253
  a232 := Tryz.isAgg253
  z232 := Tryz.sizeOf253
  v232 := Tryz.zeroValue253
  t233 := Tryz.underlying254
  a233 := Tryz.isAgg254
  z233 := Tryz.sizeOf254
  v233 := Tryz.zeroValue254
  g15 := by kernel_rfl
  g16 := by kernel_rfl
  g17 := by kernel_rfl
  g18 := by kernel_rfl
  g19 := by kernel_rfl
  t80 := Tryz.underlying75
  a80 := Tryz.isAgg75
  z80 := Tryz.sizeOf75
  v80 := Tryz.zeroValue75
  i0 := by kernel_rfl
  i2 := by kernel_rfl
  i3 := by kernel_rfl
  i4 := by kernel_rfl
  i5 := by kernel_rfl
  i9 := by kernel_rfl
  i20 := by kernel_rfl
  i21 := by kernel_rfl
  i37 := by kernel_rfl
  i46 := by kernel_rfl
  i51 := by kernel_rfl
  i53 := by kernel_rfl
  i75 := by kernel_rfl
  i76 := by kernel_rfl
  i80 := by kernel_rfl
  i85 := by kernel_rfl
  i127 := by kernel_rfl
  i143 := by kernel_rfl
  i145 := by kernel_rfl
  i167 := by kernel_rfl
  i168 := by kernel_rfl
  i171 := by kernel_rfl
  i173 := by kernel_rfl
  i175 := by kernel_rfl
  i210 := by kernel_rfl
  i212 := by kernel_rfl
  i232 := by kernel_rfl
  i233 := by kernel_rfl
  m15 := by kernel_rfl
  m16 := by kernel_rfl
  m17 := by kernel_rfl
  m18 := by kernel_rfl
  m19 := by kernel_rfl
  c0 := by kernel_rfl
  c2 := by kernel_rfl
  c3 := by kernel_rfl
  c4 := by kernel_rfl
  c5 := by kernel_rfl
  c9 := by kernel_rfl
  c20 := by kernel_rfl
  c21 := by kernel_rfl
  c37 := by kernel_rfl
  c46 := by kernel_rfl
  c51 := by kernel_rfl
  c53 := by kernel_rfl
  c75 := by kernel_rfl
  c76 := by kernel_rfl
  c80 := by kernel_rfl
  c85 := by kernel_rfl
  c127 := by kernel_rfl
  c143 := by kernel_rfl
  c145 := by kernel_rfl
  c167 := by kernel_rfl
  c168 := by kernel_rfl
  c171 := by kernel_rfl
  c173 := by kernel_rfl
  c175 := by kernel_rfl
  c210 := by kernel_rfl
  c212 := by kernel_rfl
  c213 := by kernel_rfl
  c232 := by kernel_rfl
  c233 := by kernel_rfl
end Hw.Pa
namespace Hw.Pa
open Go Go.Proofs Go.Shelf Hw.M

theorem callOKL {f : FuncId} {fn : Func} (h : Tryz.prog.funcs[f]? = some fn) (h1 : (fn.name == "runtime.NumGoroutine") = false) (h2 : fn.body.isNone = false) : CallOK Tryz.prog f := ⟨fn, h, h1, h2⟩
theorem hasPrefixL_ok (s p : Str) : FnOK Tryz.prog 96 [Sr s, Sr p] [] (Bo ((lst p).isPrefixOf (lst s))) [] :=
  @fn_pureL _ _ [.string s, .string p] _ (callOKL Tryz.func96 (by kernel_rfl) (by kernel_rfl)) (fun w _ => Any.strings_HasPrefix laysPre s p w) rfl
theorem indexByte_ok (s : Str) (c : UInt8) : FnOK Tryz.prog 97 [Sr s, uc c.toNat] [] (I (Lib.indexByte (lst s) c)) [] :=
  @fn_pureL _ _ [.string s, .int .u8 c.toNat] _ (callOKL Tryz.func97 (by kernel_rfl) (by kernel_rfl)) (fun w _ => by
    have := Any.strings_IndexByte laysIdx s c.toNat w
    have e : ((c.toNat : Int).toNat).toUInt8 = c := by simp
    rw [e] at this
    exact this) rfl
theorem atoi_ok {s : Str} {v : Int} (h : Lib.atoiAll (lst s) = .ok v) (hs : s.size ≤ 1000000) : FnOK Tryz.prog 138 [Sr s] [] (.tup [I v, .one (.p (.k .nilIface))]) [] := by
  refine ⟨callOKL Tryz.func138 (by kernel_rfl) (by kernel_rfl), fun M ρ w xs hx _ hI hG => ?_⟩
  obtain rfl := reps_k (av := [.string s]) hx
  refine (Any.strconv_Atoi_ok laysAtoi s (by omega) v h w).mono fun e w' ⟨he, hw⟩ => ?_
  have hb : RowKit.Below w.heap.size w w' := by
    rcases hw with rfl | ⟨t, rfl⟩
    · exact RowKit.Below.refl _ _
    · exact Lib.bytesWorld_below w _ t
  exact ⟨_, M, ρ, he, ret_below hI hb (by simp only [RepS]; exact ⟨[.int .i64 v, .nilIface], rfl, by simp only [RepSs, RepS, RepV, RepPV]; exact ⟨⟨trivial, rfl⟩, ⟨trivial, rfl⟩, trivial⟩⟩)⟩
theorem atoi_range {s : Str} (h : Lib.atoiAll (lst s) = .range) (hs : s.size ≤ 1000000) (hn : Lib.atoiSat (lst s) = 9223372036854775807) : FnOK Tryz.prog 138 [Sr s] [] (.tup [I 9223372036854775807, .one (.ar 0)]) [(0, .ifc)] := by
  refine ⟨callOKL Tryz.func138 (by kernel_rfl) (by kernel_rfl), fun M ρ w xs hx hT hI hG => ?_⟩
  obtain rfl := reps_k (av := [.string s]) hx
  obtain ⟨te, pe, hev⟩ := hG.er 5 (by simp [G3])
  have hv := hI _ _ _ hev
  refine (Any.strconv_Atoi_range laysAtoi s (by omega) h _ w hv (.inr ⟨te, pe, rfl⟩)).mono fun e w' ⟨N, he, _, _, hb⟩ => ?_
  have hn' : Lib.atoiSat s.data.toList = 9223372036854775807 := hn
  rw [hn'] at he
  have only : ∀ i r, tg (tb [(0, Res.ifc)]) i = some r → i = 0 ∧ r = .ifc := fun i r hi => by
    simp only [tb, tg_cons] at hi
    split at hi
    · rename_i e; exact ⟨e.symm, (Option.some.inj hi).symm⟩
    · cases hi
  have nob : ∀ {i r b}, tg (tb [(0, Res.ifc)]) i = some r → Bk (upd ρ 0 (.iface (laysAtoi_ren.t 168) (.pointer (some ⟨N, 0, none⟩))) i) b → False := fun {i r b} hi hb => by
    obtain ⟨rfl, _⟩ := only i r hi
    rw [upd_same] at hb
    simp [Bk, blk] at hb
  refine ⟨_, M, upd ρ 0 (.iface (laysAtoi_ren.t 168) (.pointer (some ⟨N, 0, none⟩))), he, ?_⟩
  refine ⟨?_, ⟨fun i r hi => ?_, fun i j ri rj b hi _ _ hb _ => nob hi hb, fun i r b hi hb => (nob hi hb).elim⟩, fun b o u hu => by rw [cell_of_heap (hb.block b (cell_lt (hI b o u hu)))]; exact hI b o u hu, MLe.refl M, fun b o u hu => .inl hu,
    fun b ⟨i, r, hi, hb⟩ => (nob hi hb).elim, fun b h _ => hb.block b h, hb.size, hb.os, hb.tape, hb.output, fun id hid => by simp [RL.ids] at hid⟩
  · simp only [RepS]
    exact ⟨[.int .i64 9223372036854775807, .iface (laysAtoi_ren.t 168) (.pointer (some ⟨N, 0, none⟩))], rfl, by simp only [RepSs, RepS, RepV, RepPV]; exact ⟨⟨trivial, rfl⟩, ⟨by rw [upd_same], rfl⟩, trivial⟩⟩
  · obtain ⟨rfl, rfl⟩ := only i r hi
    exact ⟨_, _, upd_same _ _ _⟩
theorem lst_at {s : Str} {i : Nat} {b : UInt8} (h : (lst s)[i]? = some b) : s[((i : Nat) : Int).toNat]? = some b := by
  have hlt : i < s.data.size := by
    have := (List.getElem?_eq_some_iff.1 h).1
    simpa [lst] using this
  have : s.data[i] = b := by unfold lst at h; rw [Array.getElem?_toList, Array.getElem?_eq_getElem hlt] at h; exact Option.some.inj h
  have hlt' : i < s.size := hlt
  simp only [Int.toNat_natCast]
  rw [getElem?_pos s i hlt']
  exact congrArg some this
theorem class_dig (c : Int) : decide (classS c = 3) = isDigit c := by
  unfold classS isDigit
  by_cases h1 : c = 32
  · subst h1; rfl
  by_cases h2 : c = 9
  · subst h2; rfl
  by_cases h3 : c = 13
  · subst h3; rfl
  by_cases h4 : c = 10
  · subst h4; rfl
  simp only [h1, h2, h3, h4, if_false]
  by_cases h5 : (decide (97 ≤ c) && decide (c ≤ 122)) = true
  · rw [if_pos h5]
    simp only [Bool.and_eq_true, decide_eq_true_eq] at h5
    rw [decide_eq_false (show ¬ c ≤ 57 by omega)]; simp
  · rw [if_neg h5]
    by_cases h6 : (decide (65 ≤ c) && decide (c ≤ 90)) = true
    · rw [if_pos h6]
      simp only [Bool.and_eq_true, decide_eq_true_eq] at h6
      rw [decide_eq_false (show ¬ c ≤ 57 by omega)]; simp
    · rw [if_neg h6]
      by_cases h7 : (decide (48 ≤ c) && decide (c ≤ 57)) = true
      · rw [if_pos h7, h7]; rfl
      · rw [if_neg h7]
        have h7' : (decide (48 ≤ c) && decide (c ≤ 57)) = false := by simpa using h7
        rw [h7']
        by_cases h8 : c = 95
        · rw [if_pos h8]; rfl
        · rw [if_neg h8]; rfl
def numNo (w : By) : Bool := decide (w = []) || (decide (1 < w.length) && decide (w.head? = some 48))
theorem numOk_eq (w : By) : numOk w = (!numNo w && w.all dB && decide (numV w 0 ≤ 1099511627776)) := by
  unfold numOk numNo; cases decide (w = []) <;> cases (decide (1 < w.length) && decide (w.head? = some 48)) <;> simp
def intF (w : By) : Int := if (!numNo w && w.all dB) = true then intN w else 0
theorem sat_digits {w : By} (hne : w ≠ []) (hd : w.all dB = true) : Lib.atoiSat w = 9223372036854775807 := by
  cases w with
  | nil => exact absurd rfl hne
  | cons c r =>
    have hc := dB_iff.1 (by simp only [List.all_cons, Bool.and_eq_true] at hd; exact hd.1)
    exact Lib.atoiSat_other c r (by omega)
theorem integer_ok (s : Str) (hs : s.size ≤ 1000000) : FnOK Tryz.prog 95 [Sr s] [] (.tup [I (intF (lst s)), .bq (numOk (lst s))]) [] := by
  have hl := lst_len s
  have no : numNo (lst s) = true → intF (lst s) = 0 ∧ numOk (lst s) = false := fun h => by
    rw [numOk_eq]; unfold intF; rw [h]; simp
  by_cases h0 : s = ⟨#[]⟩
  · obtain ⟨e1, e2⟩ := no (by rw [h0]; rfl)
    rw [e1, e2]
    refine fn_ok T Tryz.func95 (by kernel_rfl) rfl rfl rfl rfl fun C hC => ?_
    repeat' first | refine g_go T hC true 400 rfl rfl ?_ | refine g_cond rfl (fun h => ?_) (fun h => ?_) | refine g_splitG rfl rfl rfl (fun h => ?_) (fun h => ?_) | refine g_splitP rfl rfl (fun h => ?_) (fun h => ?_)
    all_goals first
      | exact g_fin ⟨.inl rfl, id, _, rfl, LeS.tup (.cons (.refl _) (.cons (.qb rfl) .nil)), trivial, rfl, rfl⟩
      | (exfalso; simp_all; done)
  have hne : lst s ≠ [] := fun e => h0 (by rw [← str_lst s, e]; rfl)
  have hpos : 0 < (lst s).length := List.length_pos_iff.2 hne
  obtain ⟨b, hb⟩ := exists_at hpos
  have hhd : (lst s).head? = some b := by rw [List.head?_eq_getElem?]; exact hb
  by_cases h1 : (decide (1 < (lst s).length) && decide ((lst s).head? = some 48)) = true
  · obtain ⟨e1, e2⟩ := no (by unfold numNo; rw [h1]; simp)
    rw [e1, e2]
    simp only [Bool.and_eq_true, decide_eq_true_eq, hhd, Option.some.injEq] at h1
    obtain ⟨h1, rfl⟩ := h1
    refine fn_ok T Tryz.func95 (by kernel_rfl) rfl rfl rfl rfl fun C hC => ?_
    repeat' first | refine g_go T hC true 400 rfl rfl ?_ | refine g_cond rfl (fun h => ?_) (fun h => ?_) | refine g_splitG rfl rfl rfl (fun h => ?_) (fun h => ?_) | refine g_splitP rfl rfl (fun h => ?_) (fun h => ?_) | refine g_idxS T hC rfl rfl rfl (Int.le_refl _) (lst_at hb) rfl rfl ?_
    all_goals first
      | exact g_fin ⟨.inl rfl, id, _, rfl, LeS.tup (.cons (.refl _) (.cons (.qb rfl) .nil)), trivial, rfl, rfl⟩
      | (exfalso; simp_all; done)
      | (exfalso; simp only [decide_eq_true_eq, decide_eq_false_iff_not] at *; omega)
      | (exfalso; revert h; decide)
  have hnn : numNo (lst s) = false := by
    unfold numNo
    rw [decide_eq_false hne]; simpa using h1
  have hif : intF (lst s) = if (lst s).all dB = true then intN (lst s) else 0 := by unfold intF; rw [hnn]; simp
  have hok : numOk (lst s) = ((lst s).all dB && decide (numV (lst s) 0 ≤ 1099511627776)) := by rw [numOk_eq, hnn]; rfl
  have h48 : 1 < (lst s).length → b ≠ 48 := fun h e => h1 (by rw [hhd, e]; simp [h])
  rw [hif, hok]
  clear no h1 hhd
  refine fn_ok T Tryz.func95 (by kernel_rfl) rfl rfl rfl rfl fun C hC => ?_
  repeat' first | refine g_go T hC true 400 rfl rfl ?_ | refine g_cond rfl (fun h => ?_) (fun h => ?_) | refine g_splitG rfl rfl rfl (fun h => ?_) (fun h => ?_) | refine g_splitP rfl rfl (fun h => ?_) (fun h => ?_) | refine g_idxS T hC rfl rfl rfl (Int.le_refl _) (lst_at hb) rfl rfl ?_
  all_goals first
    | (exfalso; simp_all; done)
    | (exfalso; simp only [decide_eq_true_eq, decide_eq_false_iff_not] at *; refine h48 (by omega) ?_; apply UInt8.toNat_inj.1; have h48' : (48 : UInt8).toNat = 48 := rfl; omega)
    | skip
  all_goals
    refine g_loop (fun i : Nat => i ≤ s.size ∧ ((lst s).take i).all dB = true) (fun i => ([(0, Sr s), (20, I s.size), (21, I i)], [])) (fun i => s.size - i) hC
      0 ⟨Nat.zero_le _, by simp⟩ id ⟨rfl, ⟨rfl, rfl, rfl, trivial⟩, trivial, rfl, fun _ _ => rfl⟩ ?_
    rintro i ⟨hi, hn⟩
    refine g_run' T hC true 200 rfl ?_
    refine g_cond rfl (fun hh => ?_) (fun hh => ?_)
    · have hlt : i < (lst s).length := by have := of_decide_eq_true hh; omega
      clear hh
      obtain ⟨x, hx⟩ := exists_at hlt
      repeat' first | refine g_go T hC true 400 rfl rfl ?_ | refine g_cond rfl (fun h => ?_) (fun h => ?_) | refine g_splitG rfl rfl rfl (fun h => ?_) (fun h => ?_) | refine g_splitP rfl rfl (fun h => ?_) (fun h => ?_) | refine g_idxS T hC rfl rfl rfl (Int.natCast_nonneg _) (lst_at hx) rfl rfl ?_ | refine g_call hC (class_ok _) rfl rfl (LeSs.refl _) rfl rfl rfl ?_ | refine g_outR ?_
      all_goals first
        | (have hd : dB x = false := by unfold dB; rw [← class_dig]; simpa using h
           rw [all_no hx hd]
           exact g_fin ⟨.inl rfl, id, _, rfl, LeS.tup (.cons (.refl _) (.cons (.qb rfl) .nil)), trivial, rfl, rfl⟩)
        | (have hd : dB x = true := by unfold dB; rw [← class_dig]; simpa using h
           rw [wrapS (by omega)]
           refine g_round (i + 1) ⟨by omega, ?_⟩ id (by omega) ⟨rfl, ⟨rfl, rfl, rfl, trivial⟩, trivial, rfl, fun _ _ => rfl⟩
           rw [all_take hx, hn, hd]; rfl)
    · have hge : ¬ i < (lst s).length := by have := of_decide_eq_false hh; omega
      have hall := all_end (p := dB) (by omega) hn
      clear hh
      rw [hall, Bool.true_and]
      have ha := atoi_digits hne hall
      have hsat := sat_digits hne hall
      by_cases hv : numV (lst s) 0 ≤ 9223372036854775807
      · rw [if_pos hv] at ha
        have hA := atoi_ok ha hs
        have hi' : intN (lst s) = numV (lst s) 0 := by unfold intN; rw [if_pos hv]
        rw [hi', if_pos rfl]
        repeat' first | refine g_go T hC true 400 rfl rfl ?_ | refine g_cond rfl (fun h => ?_) (fun h => ?_) | refine g_splitG rfl rfl rfl (fun h => ?_) (fun h => ?_) | refine g_splitP rfl rfl (fun h => ?_) (fun h => ?_) | refine g_outE ?_ | refine g_call hC (hA) rfl rfl (LeSs.refl _) rfl rfl rfl ?_ | refine g_ifnE hC rfl (by kernel_rfl) rfl rfl ?_
        all_goals first
          | exact g_fin ⟨.inl rfl, id, _, rfl, LeS.tup (.cons (.refl _) (.cons (.qq rfl) .nil)), trivial, rfl, rfl⟩
          | (exfalso; simp_all; done)
      · rw [if_neg hv] at ha
        have hA := atoi_range ha hs hsat
        have hi' : intN (lst s) = 9223372036854775807 := by unfold intN; rw [if_neg hv]
        rw [hi', decide_eq_false (show ¬ numV (lst s) 0 ≤ 1099511627776 by omega), if_pos rfl]
        repeat' first | refine g_go T hC true 400 rfl rfl ?_ | refine g_cond rfl (fun h => ?_) (fun h => ?_) | refine g_splitG rfl rfl rfl (fun h => ?_) (fun h => ?_) | refine g_splitP rfl rfl (fun h => ?_) (fun h => ?_) | refine g_outE ?_ | (refine g_callR hC hA (nm [140]) rfl rfl (LeSs.refl _) rfl rfl rfl rfl rfl rfl rfl rfl ?_) | refine g_ifcE hC rfl rfl (by kernel_rfl) rfl rfl ?_
        all_goals first
          | exact g_fin ⟨.inl rfl, id, _, rfl, LeS.tup (.cons (.refl _) (.cons (.qb rfl) .nil)), trivial, rfl, rfl⟩
          | (exfalso; simp_all; done)

theorem lst_extract (s : Str) (i j : Nat) : lst (s.extract i j) = ((lst s).drop i).take (j - i) := by
  simp only [lst, ByteArray.data_extract, Array.toList_extract, List.extract_eq_take_drop]
theorem extract_str (s : Str) (i j : Nat) : s.extract i j = strOf (((lst s).drop i).take (j - i)) := by rw [← lst_extract, str_lst]

theorem symL_char {c : UInt8} {r : By} (h : ∀ y ∈ [(⟨#[61, 61]⟩ : ByteArray), (⟨#[33, 61]⟩ : ByteArray), (⟨#[60, 61]⟩ : ByteArray), (⟨#[45, 62]⟩ : ByteArray)], (lst y).isPrefixOf (c :: r) = false) : symL (c :: r) = if 0 ≤ Lib.indexByte (lst (⟨#[40, 41, 123, 125, 91, 93, 44, 59, 58, 46, 61, 60, 43, 45, 42, 47, 37]⟩ : Str)) c then some (strOf [c]) else none := by
  have key : ∀ i : Fin 256, (([(⟨#[40]⟩ : ByteArray), (⟨#[41]⟩ : ByteArray), ⟨#[123]⟩, ⟨#[125]⟩, (⟨#[91]⟩ : ByteArray), (⟨#[93]⟩ : ByteArray), (⟨#[44]⟩ : ByteArray), (⟨#[59]⟩ : ByteArray), (⟨#[58]⟩ : ByteArray), (⟨#[46]⟩ : ByteArray), (⟨#[61]⟩ : ByteArray), (⟨#[60]⟩ : ByteArray), (⟨#[43]⟩ : ByteArray), (⟨#[45]⟩ : ByteArray), (⟨#[42]⟩ : ByteArray), (⟨#[47]⟩ : ByteArray), (⟨#[37]⟩ : ByteArray)] : List Str).find? fun y => (lst y).isPrefixOf [UInt8.ofNat i.val]) =
      if 0 ≤ Lib.indexByte (lst (⟨#[40, 41, 123, 125, 91, 93, 44, 59, 58, 46, 61, 60, 43, 45, 42, 47, 37]⟩ : Str)) (UInt8.ofNat i.val) then some (strOf [UInt8.ofNat i.val]) else none := by decide +kernel
  have hci : UInt8.ofNat c.toNat = c := by simp
  have hk := key ⟨c.toNat, c.toNat_lt⟩
  simp only [hci] at hk
  rw [← hk]
  have e : syms = [(⟨#[61, 61]⟩ : ByteArray), (⟨#[33, 61]⟩ : ByteArray), (⟨#[60, 61]⟩ : ByteArray), (⟨#[45, 62]⟩ : ByteArray)] ++ [(⟨#[40]⟩ : ByteArray), (⟨#[41]⟩ : ByteArray), ⟨#[123]⟩, ⟨#[125]⟩, (⟨#[91]⟩ : ByteArray), (⟨#[93]⟩ : ByteArray), (⟨#[44]⟩ : ByteArray), (⟨#[59]⟩ : ByteArray), (⟨#[58]⟩ : ByteArray), (⟨#[46]⟩ : ByteArray), (⟨#[61]⟩ : ByteArray), (⟨#[60]⟩ : ByteArray), (⟨#[43]⟩ : ByteArray), (⟨#[45]⟩ : ByteArray), (⟨#[42]⟩ : ByteArray), (⟨#[47]⟩ : ByteArray), (⟨#[37]⟩ : ByteArray)] := rfl
  unfold symL
  rw [e, List.find?_append]
  have hn : ([(⟨#[61, 61]⟩ : ByteArray), (⟨#[33, 61]⟩ : ByteArray), (⟨#[60, 61]⟩ : ByteArray), (⟨#[45, 62]⟩ : ByteArray)] : List Str).find? (fun y => (lst y).isPrefixOf (c :: r)) = none := by
    rw [List.find?_eq_none]
    intro y hy
    rw [h y hy]; simp
  rw [hn, Option.none_or]
  have one : ∀ y ∈ ([(⟨#[40]⟩ : ByteArray), (⟨#[41]⟩ : ByteArray), ⟨#[123]⟩, ⟨#[125]⟩, (⟨#[91]⟩ : ByteArray), (⟨#[93]⟩ : ByteArray), (⟨#[44]⟩ : ByteArray), (⟨#[59]⟩ : ByteArray), (⟨#[58]⟩ : ByteArray), (⟨#[46]⟩ : ByteArray), (⟨#[61]⟩ : ByteArray), (⟨#[60]⟩ : ByteArray), (⟨#[43]⟩ : ByteArray), (⟨#[45]⟩ : ByteArray), (⟨#[42]⟩ : ByteArray), (⟨#[47]⟩ : ByteArray), (⟨#[37]⟩ : ByteArray)] : List Str), (lst y).length = 1 := by decide +kernel
  have : ∀ l : List Str, (∀ y ∈ l, (lst y).length = 1) → l.find? (fun y => (lst y).isPrefixOf (c :: r)) = l.find? (fun y => (lst y).isPrefixOf [c]) := fun l => by
    induction l with
    | nil => intro _; rfl
    | cons y l ih =>
      intro hl
      have hy := hl y (by simp)
      have e2 : (lst y).isPrefixOf (c :: r) = (lst y).isPrefixOf [c] := by
        match lst y, hy with
        | [u], _ => rfl
        | [], hy => simp at hy
        | _ :: _ :: _, hy => simp at hy
      rw [List.find?_cons, List.find?_cons, e2, ih fun z hz => hl z (by simp [hz])]
  exact this _ one
theorem symL_nil : symL [] = none := by decide +kernel
theorem symbol_ok (s : Str) : FnOK Tryz.prog 55 [Sr s] [] (Sr ((symL (lst s)).getD (⟨#[]⟩ : ByteArray))) [] := by
  have hl := lst_len s
  have hP := fun y : Str => hasPrefixL_ok s y
  refine fn_ok T Tryz.func55 (by kernel_rfl) rfl rfl rfl rfl fun C hC => ?_
  repeat' first | refine g_go T hC true 400 rfl rfl ?_ | refine g_cond rfl (fun h => ?_) (fun h => ?_) | refine g_splitG rfl rfl rfl (fun h => ?_) (fun h => ?_) | refine g_splitP rfl rfl (fun h => ?_) (fun h => ?_) | (refine g_buildA (vs := [.p (ks (⟨#[61, 61]⟩ : ByteArray)), .p (ks (⟨#[33, 61]⟩ : ByteArray)), .p (ks (⟨#[60, 61]⟩ : ByteArray)), .p (ks (⟨#[45, 62]⟩ : ByteArray))]) (len := 4) (e := 1) (el := 9) (zs := List.replicate 4 (.p (ks (⟨#[]⟩ : ByteArray)))) hC rfl (by kernel_rfl) (by kernel_rfl) (by kernel_rfl) rfl (by kernel_rfl) rfl rfl ?_)
  refine g_loop (fun i : Nat => i ≤ 4 ∧ ∀ y ∈ ([(⟨#[61, 61]⟩ : ByteArray), (⟨#[33, 61]⟩ : ByteArray), (⟨#[60, 61]⟩ : ByteArray), (⟨#[45, 62]⟩ : ByteArray)] : List Str).take i, (lst y).isPrefixOf (lst s) = false) (fun i => ([(0, Sr s), (5, .agg [.p (ks (⟨#[61, 61]⟩ : ByteArray)), .p (ks (⟨#[33, 61]⟩ : ByteArray)), .p (ks (⟨#[60, 61]⟩ : ByteArray)), .p (ks (⟨#[45, 62]⟩ : ByteArray))]), (6, I i)], [])) (fun i => 4 - i) hC
    0 ⟨Nat.zero_le _, by simp⟩ id ⟨rfl, ⟨rfl, rfl, rfl, trivial⟩, trivial, rfl, fun _ _ => rfl⟩ ?_
  rintro i ⟨hi, hn⟩
  refine g_run' T hC true 200 rfl ?_
  refine g_cond rfl (fun hh => ?_) (fun hh => ?_)
  · have hlt : i < 4 := by have := of_decide_eq_true hh; omega
    clear hh
    obtain ⟨y, hy⟩ := exists_at (l := ([(⟨#[61, 61]⟩ : ByteArray), (⟨#[33, 61]⟩ : ByteArray), (⟨#[60, 61]⟩ : ByteArray), (⟨#[45, 62]⟩ : ByteArray)] : List Str)) (i := i) (by simpa using hlt)
    have hyv : ([.p (ks (⟨#[61, 61]⟩ : ByteArray)), .p (ks (⟨#[33, 61]⟩ : ByteArray)), .p (ks (⟨#[60, 61]⟩ : ByteArray)), .p (ks (⟨#[45, 62]⟩ : ByteArray))] : List V)[((i : Nat) : Int).toNat]? = some (.p (ks y)) := by
      have : ([.p (ks (⟨#[61, 61]⟩ : ByteArray)), .p (ks (⟨#[33, 61]⟩ : ByteArray)), .p (ks (⟨#[60, 61]⟩ : ByteArray)), .p (ks (⟨#[45, 62]⟩ : ByteArray))] : List V) = ([(⟨#[61, 61]⟩ : ByteArray), (⟨#[33, 61]⟩ : ByteArray), (⟨#[60, 61]⟩ : ByteArray), (⟨#[45, 62]⟩ : ByteArray)] : List Str).map fun y => V.p (ks y) := rfl
      rw [this, List.getElem?_map, Int.toNat_natCast, hy]; rfl
    have hPy := hP y
    cases hp : (lst y).isPrefixOf (lst s) with
    | true =>
      rw [hp] at hPy
      have hsy : symL (lst s) = some y := by
        unfold symL
        have e : syms = ([(⟨#[61, 61]⟩ : ByteArray), (⟨#[33, 61]⟩ : ByteArray), (⟨#[60, 61]⟩ : ByteArray), (⟨#[45, 62]⟩ : ByteArray)] : List Str) ++ [(⟨#[40]⟩ : ByteArray), (⟨#[41]⟩ : ByteArray), ⟨#[123]⟩, ⟨#[125]⟩, (⟨#[91]⟩ : ByteArray), (⟨#[93]⟩ : ByteArray), (⟨#[44]⟩ : ByteArray), (⟨#[59]⟩ : ByteArray), (⟨#[58]⟩ : ByteArray), (⟨#[46]⟩ : ByteArray), (⟨#[61]⟩ : ByteArray), (⟨#[60]⟩ : ByteArray), (⟨#[43]⟩ : ByteArray), (⟨#[45]⟩ : ByteArray), (⟨#[42]⟩ : ByteArray), (⟨#[47]⟩ : ByteArray), (⟨#[37]⟩ : ByteArray)] := rfl
        rw [e, List.find?_append]
        have : ([(⟨#[61, 61]⟩ : ByteArray), (⟨#[33, 61]⟩ : ByteArray), (⟨#[60, 61]⟩ : ByteArray), (⟨#[45, 62]⟩ : ByteArray)] : List Str).find? (fun y => (lst y).isPrefixOf (lst s)) = some y := by
          rw [List.find?_eq_some_iff_getElem]
          refine ⟨hp, i, by simpa using hlt, ?_, fun j hj => ?_⟩
          · have := (List.getElem?_eq_some_iff.1 hy).2; exact this
          · have := hn (([(⟨#[61, 61]⟩ : ByteArray), (⟨#[33, 61]⟩ : ByteArray), (⟨#[60, 61]⟩ : ByteArray), (⟨#[45, 62]⟩ : ByteArray)] : List Str)[j]'(by simp; omega)) (List.mem_take_iff_getElem.2 ⟨j, by simp; omega, rfl⟩)
            rw [this]; rfl
        rw [this]; rfl
      rw [hsy]
      repeat' first | refine g_go T hC true 400 rfl rfl ?_ | refine g_cond rfl (fun h => ?_) (fun h => ?_) | refine g_splitG rfl rfl rfl (fun h => ?_) (fun h => ?_) | refine g_splitP rfl rfl (fun h => ?_) (fun h => ?_) | (refine g_index1 (len := 4) (el := 9) hC rfl rfl (by kernel_rfl) (by kernel_rfl) (by kernel_rfl) (Int.natCast_nonneg _) (by omega) hyv rfl rfl ?_) | refine g_call hC (hPy) rfl rfl (LeSs.refl _) rfl rfl rfl ?_ | refine g_outR ?_
      exact g_fin ⟨.inl rfl, id, _, rfl, .refl _, trivial, rfl, rfl⟩
    | false =>
      rw [hp] at hPy
      repeat' first | refine g_go T hC true 400 rfl rfl ?_ | refine g_cond rfl (fun h => ?_) (fun h => ?_) | refine g_splitG rfl rfl rfl (fun h => ?_) (fun h => ?_) | refine g_splitP rfl rfl (fun h => ?_) (fun h => ?_) | (refine g_index1 (len := 4) (el := 9) hC rfl rfl (by kernel_rfl) (by kernel_rfl) (by kernel_rfl) (Int.natCast_nonneg _) (by omega) hyv rfl rfl ?_) | refine g_call hC (hPy) rfl rfl (LeSs.refl _) rfl rfl rfl ?_
      rw [wrapS (by omega)]
      refine g_round (i + 1) ⟨by omega, fun z hz => ?_⟩ id (by omega) ⟨rfl, ⟨rfl, rfl, rfl, trivial⟩, trivial, rfl, fun _ _ => rfl⟩
      rw [List.take_add_one, hy] at hz
      rcases List.mem_append.1 hz with hz | hz
      · exact hn z hz
      · simp only [Option.toList_some, List.mem_singleton] at hz; subst hz; exact hp
  · have hge : i = 4 := by have := of_decide_eq_false hh; omega
    subst hge
    clear hh
    have hn4 : ∀ y ∈ ([(⟨#[61, 61]⟩ : ByteArray), (⟨#[33, 61]⟩ : ByteArray), (⟨#[60, 61]⟩ : ByteArray), (⟨#[45, 62]⟩ : ByteArray)] : List Str), (lst y).isPrefixOf (lst s) = false := fun y hy => hn y (by simpa using hy)
    match hls : lst s with
    | [] =>
      have h0 : s = ⟨#[]⟩ := by rw [← str_lst s, hls]; rfl
      subst h0
      rw [symL_nil]
      repeat' first | refine g_go T hC true 400 rfl rfl ?_ | refine g_cond rfl (fun h => ?_) (fun h => ?_) | refine g_splitG rfl rfl rfl (fun h => ?_) (fun h => ?_) | refine g_splitP rfl rfl (fun h => ?_) (fun h => ?_) | refine g_outE ?_
      all_goals first
        | exact g_fin ⟨.inl rfl, id, _, rfl, .refl _, trivial, rfl, rfl⟩
        | (exfalso; simp_all; done)
    | c :: r =>
      rw [hls] at hn4 hl
      have hsz : 1 ≤ s.size := by simp only [List.length_cons] at hl; omega
      have hc0 : (lst s)[0]? = some c := by rw [hls]; rfl
      have hI := indexByte_ok ⟨#[40, 41, 123, 125, 91, 93, 44, 59, 58, 46, 61, 60, 43, 45, 42, 47, 37]⟩ c
      have hne : s ≠ ⟨#[]⟩ := fun e => by subst e; simp [lst] at hls
      rw [symL_char hn4]
      generalize Lib.indexByte (lst (⟨#[40, 41, 123, 125, 91, 93, 44, 59, 58, 46, 61, 60, 43, 45, 42, 47, 37]⟩ : Str)) c = q at hI
      have hx : s.extract 0 (1 : Int).toNat = strOf [c] := by
        rw [extract_str, hls]; rfl
      repeat' first | refine g_go T hC true 400 rfl rfl ?_ | refine g_cond rfl (fun h => ?_) (fun h => ?_) | refine g_splitG rfl rfl rfl (fun h => ?_) (fun h => ?_) | refine g_splitP rfl rfl (fun h => ?_) (fun h => ?_) | refine g_outE ?_ | refine g_idxS T hC rfl rfl rfl (Int.le_refl _) (lst_at hc0) rfl rfl ?_ | refine g_call hC (hI) rfl rfl (LeSs.refl _) rfl rfl rfl ?_ | (refine g_slTo hC rfl rfl (by kernel_rfl) (by decide) (by omega) rfl rfl ?_)
      all_goals first
        | (rw [if_pos (by simpa using h), hx]
           exact g_fin ⟨.inl rfl, id, _, rfl, .refl _, trivial, rfl, rfl⟩)
        | (rw [if_neg (by simpa using h)]
           exact g_fin ⟨.inl rfl, id, _, rfl, .refl _, trivial, rfl, rfl⟩)
        | (exfalso; simp_all; done)

def tokC (k : Int) (t : Str) (n ln cl : Int) : List PV := [ki k, ks t, ki n, ki ln, ki cl]
theorem lexWord_ok (s : Str) (hs : s.size ≤ 1000000) : (∀ t, clsT (lst s) = some t → FnOK Tryz.prog 54 [Sr s] [] (.tup [aggS (tokC t.1 t.2.1 t.2.2 0 0), Bo true]) []) ∧ (clsT (lst s) = none → FnOK Tryz.prog 54 [Sr s] [] (.tup [aggS (tokC 2 (⟨#[]⟩ : ByteArray) (intF (lst s)) 0 0), Bo false]) []) := by
  have hK := lexKeyword_ok s
  have hN := lexName_ok s
  have hI := integer_ok s hs
  have hif : numOk (lst s) = true → intF (lst s) = numV (lst s) 0 := fun h => by
    rw [numOk_eq] at h
    simp only [Bool.and_eq_true, decide_eq_true_eq] at h
    unfold intF intN
    rw [if_pos (by simp [h.1.1, h.1.2]), if_pos (by omega)]
  unfold clsT
  rw [str_lst]
  cases hk : isKeyword s with
  | true =>
    rw [hk] at hK
    refine ⟨fun t ht => ?_, fun h => by simp at h⟩
    rw [if_pos rfl] at ht
    obtain rfl := Option.some.inj ht
    refine fn_ok T Tryz.func54 (by kernel_rfl) rfl rfl rfl rfl fun C hC => ?_
    repeat' first | refine g_go T hC true 400 rfl rfl ?_ | refine g_cond rfl (fun h => ?_) (fun h => ?_) | refine g_call hC (hK) rfl rfl (LeSs.refl _) rfl rfl rfl ?_
    all_goals first
      | exact g_fin ⟨.inl rfl, id, _, rfl, .refl _, trivial, rfl, rfl⟩
      | (exfalso; simp_all; done)
  | false =>
  rw [hk] at hK
  cases hn : isName s with
  | true =>
    rw [hn] at hN
    refine ⟨fun t ht => ?_, fun h => by simp at h⟩
    simp only [Bool.false_eq_true, if_false, if_true] at ht
    obtain rfl := Option.some.inj ht
    refine fn_ok T Tryz.func54 (by kernel_rfl) rfl rfl rfl rfl fun C hC => ?_
    repeat' first | refine g_go T hC true 400 rfl rfl ?_ | refine g_cond rfl (fun h => ?_) (fun h => ?_) | refine g_call hC (hK) rfl rfl (LeSs.refl _) rfl rfl rfl ?_ | refine g_call hC (hN) rfl rfl (LeSs.refl _) rfl rfl rfl ?_
    all_goals first
      | exact g_fin ⟨.inl rfl, id, _, rfl, .refl _, trivial, rfl, rfl⟩
      | (exfalso; simp_all; done)
  | false =>
  rw [hn] at hN
  cases ho : numOk (lst s) with
  | true =>
    rw [ho, hif ho] at hI
    refine ⟨fun t ht => ?_, fun h => by simp at h⟩
    simp only [Bool.false_eq_true, if_false, if_true] at ht
    obtain rfl := Option.some.inj ht
    refine fn_ok T Tryz.func54 (by kernel_rfl) rfl rfl rfl rfl fun C hC => ?_
    repeat' first | refine g_go T hC true 400 rfl rfl ?_ | refine g_cond rfl (fun h => ?_) (fun h => ?_) | refine g_call hC (hK) rfl rfl (LeSs.refl _) rfl rfl rfl ?_ | refine g_call hC (hN) rfl rfl (LeSs.refl _) rfl rfl rfl ?_ | refine g_call hC (hI) rfl rfl (LeSs.refl _) rfl rfl rfl ?_
    all_goals first
      | exact g_fin ⟨.inl rfl, id, _, rfl, LeS.tup (.cons (.refl _) (.cons (.bq rfl) .nil)), trivial, rfl, rfl⟩
      | exact g_fin ⟨.inl rfl, id, _, rfl, .refl _, trivial, rfl, rfl⟩
      | (exfalso; simp_all; done)
  | false =>
    rw [ho] at hI
    refine ⟨fun t ht => by simp at ht, fun _ => ?_⟩
    refine fn_ok T Tryz.func54 (by kernel_rfl) rfl rfl rfl rfl fun C hC => ?_
    repeat' first | refine g_go T hC true 400 rfl rfl ?_ | refine g_cond rfl (fun h => ?_) (fun h => ?_) | refine g_call hC (hK) rfl rfl (LeSs.refl _) rfl rfl rfl ?_ | refine g_call hC (hN) rfl rfl (LeSs.refl _) rfl rfl rfl ?_ | refine g_call hC (hI) rfl rfl (LeSs.refl _) rfl rfl rfl ?_
    all_goals first
      | exact g_fin ⟨.inl rfl, id, _, rfl, LeS.tup (.cons (.refl _) (.cons (.bq rfl) .nil)), trivial, rfl, rfl⟩
      | exact g_fin ⟨.inl rfl, id, _, rfl, .refl _, trivial, rfl, rfl⟩
      | (exfalso; simp_all; done)
end Hw.Pa
namespace Hw.Pa
open Go Go.Proofs Go.Shelf Hw.M

theorem numV_ge {w : By} (h : w.all dB = true) : 0 ≤ numV w 0 := by
  have := numV_nat w 0 h
  have e0 : ((0 : Nat) : Int) = 0 := rfl
  rw [e0] at this; omega
def numR (w : By) : Int := if numOk w = true then numV w 0 else 0
end Hw.Pa
namespace Hw.Pa
open Go Go.Proofs Go.Shelf Hw.M

def mvU (a b i : Nat) : Nat := match Nat.beq i a with
  | true => b
  | false => i
theorem mvU_low {a b i : Nat} (ha : 100 ≤ a) (hi : i < 100) : mvU a b i = i := by
  unfold mvU; rw [beq_ne (by omega)]
theorem tw_end {p : UInt8 → Bool} : ∀ (l : By) (k : Nat), (l.take k).all p = true → (∀ x, l[k]? = some x → p x = false) → l.takeWhile p = l.take k
  | [], k, _, _ => by simp
  | x :: l, 0, _, h => by
    have := h x rfl
    rw [List.takeWhile_cons, if_neg (by simp [this])]; rfl
  | x :: l, k + 1, ha, h => by
    rw [List.take_succ_cons, List.all_cons, Bool.and_eq_true] at ha
    rw [List.takeWhile_cons, if_pos ha.1, List.take_succ_cons, tw_end l k ha.2 (fun y hy => h y (by simpa using hy))]
theorem dropC {l : By} {i : Nat} {c : UInt8} (h : l[i]? = some c) : l.drop i = c :: l.drop (i + 1) := by
  obtain ⟨hi, rfl⟩ := List.getElem?_eq_some_iff.1 h
  exact List.drop_eq_getElem_cons hi
theorem blB_iff {c : UInt8} : blB c = true ↔ classS c.toNat = 1 := by unfold blB; exact decide_eq_true_iff
theorem wB_iff {c : UInt8} : wB c = true ↔ 2 ≤ classS c.toNat := by
  have := class_word c.toNat
  unfold wB
  cases h : isWord (c.toNat : Int) with
  | true => rw [h] at this; simp at this; simpa using this
  | false => rw [h] at this; simp at this; simp; omega
theorem step_blank {l : By} {i : Nat} {c : UInt8} (p : Int × Int) (out : List Tok) (h : l[i]? = some c) (hb : blB c = true) : lxx (l.drop i) p out = lxx (l.drop (i + 1)) (mv p c) out := by
  have ht : tk (l.drop i) = some (1, none) := by rw [dropC h]; simp only [tk, if_pos hb]
  rw [lxx_step p out ht, List.drop_drop, dropC h]
  simp
theorem take_line {l : By} {p : UInt8 → Bool} (hp : p 10 = false) (q : Int × Int) : (l.take (l.takeWhile p).length).foldl mv q = (q.1, q.2 + (l.takeWhile p).length) := by
  have e : l.take (l.takeWhile p).length = l.takeWhile p := (List.prefix_iff_eq_take.1 (List.takeWhile_prefix p)).symm
  rw [e]
  refine mv_line _ _ fun b hb e => ?_
  subst e
  have := (List.all_eq_true.1 (List.all_takeWhile (p := p) (l := l))) _ hb
  rw [hp] at this; cases this
theorem step_com {l : By} {i k : Nat} (p : Int × Int) (out : List Tok) (h : l[i]? = some 35) (hk : ((l.drop i).takeWhile fun b => decide (b ≠ 10)).length = k) : lxx (l.drop i) p out = lxx (l.drop (i + k)) (p.1, p.2 + k) out := by
  subst hk
  have ht : tk (l.drop i) = some (((l.drop i).takeWhile fun b => decide (b ≠ 10)).length, none) := by
    rw [dropC h]; simp only [tk]; rw [if_neg (by decide)]; rfl
  rw [lxx_step p out ht, List.drop_drop, take_line (by decide)]
  simp
theorem step_word {l : By} {i : Nat} {c : UInt8} (p : Int × Int) (out : List Tok) (h : l[i]? = some c) (hb : blB c = false) (hc : c ≠ 35) (hw : wB c = true) {t : Int × Str × Int} (ht : clsT ((l.drop i).takeWhile wB) = some t) : lxx (l.drop i) p out = lxx (l.drop (i + ((l.drop i).takeWhile wB).length)) (p.1, p.2 + ((l.drop i).takeWhile wB).length) (out ++ [tokAt p t]) := by
  have hk : tk (l.drop i) = some (((l.drop i).takeWhile wB).length, some t) := by
    rw [dropC h] at ht ⊢
    simp only [tk]
    rw [if_neg (by simp [hb]), if_neg hc, if_pos hw, ht]; rfl
  rw [lxx_step p out hk, List.drop_drop, take_line (by decide)]
  rfl
theorem word_bad {l : By} {i : Nat} {c : UInt8} (p : Int × Int) (out : List Tok) (h : l[i]? = some c) (hb : blB c = false) (hc : c ≠ 35) (hw : wB c = true) (ht : clsT ((l.drop i).takeWhile wB) = none) : lxx (l.drop i) p out = ([], p, 7) := by
  rw [dropC h] at ht ⊢
  refine lxx_bad p out ?_
  simp only [tk]
  rw [if_neg (by simp [hb]), if_neg hc, if_pos hw, ht]; rfl
theorem syms_line : ∀ y ∈ syms, ∀ b ∈ lst y, b ≠ 10 := by decide +kernel
theorem sym_line {l : By} {y : Str} (h : symL l = some y) (q : Int × Int) : (l.take y.size).foldl mv q = (q.1, q.2 + (y.size : Int)) := by
  obtain ⟨h1, h2⟩ := sym_of h
  have e : l.take y.size = lst y := by
    rw [← lst_len]; exact (List.prefix_iff_eq_take.1 (List.isPrefixOf_iff_prefix.1 h2)).symm
  rw [e, mv_line _ _ (syms_line y h1), lst_len]
theorem step_sym {l : By} {i : Nat} {c : UInt8} (p : Int × Int) (out : List Tok) (h : l[i]? = some c) (hb : blB c = false) (hc : c ≠ 35) (hw : wB c = false) {y : Str} (ht : symL (l.drop i) = some y) : lxx (l.drop i) p out = lxx (l.drop (i + y.size)) (p.1, p.2 + (y.size : Int)) (out ++ [tokAt p (4, y, 0)]) := by
  have hk : tk (l.drop i) = some (y.size, some (4, y, 0)) := by
    rw [dropC h] at ht ⊢
    simp only [tk]
    rw [if_neg (by simp [hb]), if_neg hc, if_neg (by simp [hw]), ht]; rfl
  rw [lxx_step p out hk, List.drop_drop, sym_line ht]
  rfl
theorem sym_bad {l : By} {i : Nat} {c : UInt8} (p : Int × Int) (out : List Tok) (h : l[i]? = some c) (hb : blB c = false) (hc : c ≠ 35) (hw : wB c = false) (ht : symL (l.drop i) = none) : lxx (l.drop i) p out = ([], p, 7) := by
  rw [dropC h] at ht ⊢
  refine lxx_bad p out ?_
  simp only [tk]
  rw [if_neg (by simp [hb]), if_neg hc, if_neg (by simp [hw]), ht]; rfl
end Hw.Pa
namespace Hw.Pa
open Go Go.Proofs Go.Shelf Hw.M

theorem lexTokens_ok (s : Str) (hs : s.size ≤ 1000000) : FnOK Tryz.prog 20 [Sr s] [] (.tup [pS (toksP (tokensS s).1), aggS [ki (tokensS s).2.1.1, ki (tokensS s).2.1.2], I (tokensS s).2.2]) [] := by
  have hl := lst_len s
  by_cases hbig : 65536 < s.size
  · have hR : tokensS s = ([], (0, 0), 4) := if_pos hbig
    rw [hR]
    refine fn_ok T Tryz.func20 (by kernel_rfl) rfl rfl rfl rfl fun C hC => ?_
    repeat' first | refine g_go T hC true 400 rfl rfl ?_ | refine g_cond rfl (fun h => ?_) (fun h => ?_) | refine g_end T hC (by kernel_rfl) ?_ | refine g_splitD (fun h => ?_) (fun h => ?_) | refine g_splitG rfl rfl rfl (fun h => ?_) (fun h => ?_) | refine g_splitP rfl rfl (fun h => ?_) (fun h => ?_)
    all_goals first
      | exact g_fin ⟨.inl rfl, id, _, rfl, LeS.tup (.cons (LeS.one (.nil 5)) (.cons (.refl _) (.cons (.refl _) .nil))), trivial, rfl, rfl⟩
      | (exfalso; simp only [decide_eq_false_iff_not] at h; omega)
  have hR : tokensS s = lxx ((lst s).drop 0) (1, 1) [] := if_neg hbig
  generalize tokensS s = R at hR
  refine fn_ok T Tryz.func20 (by kernel_rfl) rfl rfl rfl rfl fun C hC => ?_
  repeat' first | refine g_go T hC true 400 rfl rfl ?_ | refine g_cond rfl (fun h => ?_) (fun h => ?_) | refine g_end T hC (by kernel_rfl) ?_ | refine g_splitD (fun h => ?_) (fun h => ?_) | refine g_splitG rfl rfl rfl (fun h => ?_) (fun h => ?_) | refine g_splitP rfl rfl (fun h => ?_) (fun h => ?_)
  · exfalso; have := of_decide_eq_true h; omega
  refine g_adopt hC rfl 101 5 rfl [(5, .one (.ar 101))] ⟨⟨_, rfl, AdS.nil⟩, trivial⟩ [] trivial ?_
  refine g_loop (fun q : Nat × Nat × Nat × List Tok => q.1 ≤ s.size ∧ q.2.2.1 ≤ q.1 ∧ q.2.1 ≤ q.1 + 1 ∧ q.2.2.2.length ≤ q.1 ∧ R = lxx ((lst s).drop q.1) (q.2.1, (q.1 : Int) - q.2.2.1 + 1) q.2.2.2) (fun q => ([(0, Sr s), (3, .one (.bx 1003 0)), (5, .one (.ar 101)), (6, I q.2.1), (7, I q.2.2.1), (8, I q.1)], [(1003, some (Res.box [.p (ki 0), .p (ki 0)])), (101, some (Res.arr 5 (q.2.2.2.map tokR)))])) (fun q => s.size - q.1) hC
    (0, 1, 0, []) ⟨Nat.zero_le _, Nat.zero_le _, by decide, Nat.zero_le _, hR⟩ id ⟨rfl, ⟨rfl, rfl, rfl, rfl, rfl, rfl, trivial⟩, ⟨rfl, rfl, trivial⟩, rfl, fun _ _ => rfl⟩ ?_
  rintro ⟨i, ln, bg, out⟩ ⟨hi, hb, hlnn, hout, hL⟩
  simp only at hi hb hlnn hout hL
  refine g_run' T hC true 200 rfl ?_
  refine g_cond rfl (fun hh => ?_) (fun hh => ?_)
  rotate_left
  · have hge : i = s.size := by have := of_decide_eq_false hh; omega
    clear hh
    rw [List.drop_of_length_le (by omega), lxx_nil] at hL
    subst hL
    have w1 : IntKind.i64.wrap ((s.size : Int) - bg) = (s.size : Int) - bg := wrap64 (by omega)
    have w2 : IntKind.i64.wrap ((s.size : Int) - bg + 1) = (s.size : Int) - bg + 1 := wrap64 (by omega)
    have hol : (out.map tokR).length = out.length := List.length_map _
    have happ : out.map tokR ++ [[ki 5, ks (⟨#[]⟩ : ByteArray), ki 0, ki ln, ki (IntKind.i64.wrap (IntKind.i64.wrap ((s.size : Int) - bg) + 1))]] = (out ++ [(⟨5, (⟨#[]⟩ : ByteArray), 0, ln, (i : Int) - bg + 1⟩ : Tok)]).map tokR := by rw [w1, w2, hge, List.map_append]; rfl
    repeat' first | refine g_go T hC true 400 rfl rfl ?_ | refine g_cond rfl (fun h => ?_) (fun h => ?_) | refine g_end T hC (by kernel_rfl) ?_ | refine g_splitD (fun h => ?_) (fun h => ?_) | refine g_splitG rfl rfl rfl (fun h => ?_) (fun h => ?_) | refine g_splitP rfl rfl (fun h => ?_) (fun h => ?_) | refine g_outE ?_ | refine g_lit T hC rfl rfl rfl rfl rfl rfl rfl rfl rfl ?_ | (refine g_append T 102 hC (rows := out.map tokR) (rows2 := [[ki 5, ks (⟨#[]⟩ : ByteArray), ki 0, ki ln, ki (IntKind.i64.wrap (IntKind.i64.wrap ((s.size : Int) - bg) + 1))]]) (rows3 := (out ++ [(⟨5, (⟨#[]⟩ : ByteArray), 0, ln, (i : Int) - bg + 1⟩ : Tok)]).map tokR) (bytes := 48) rfl rfl rfl rfl (SrcS.sl (T.es_ok _ _ rfl)) happ rfl rfl rfl (by kernel_rfl) (by rw [hol, List.length_singleton]; omega) (by rw [hol, List.length_singleton]; omega) rfl rfl rfl ?_)
    refine g_freeze rfl (id := 102) (e := 5) (rows := (out ++ [(⟨5, (⟨#[]⟩ : ByteArray), 0, ln, (i : Int) - bg + 1⟩ : Tok)]).map tokR) rfl [(2, pS (toksP (out ++ [(⟨5, (⟨#[]⟩ : ByteArray), 0, ln, (i : Int) - bg + 1⟩ : Tok)])))] ⟨⟨_, rfl, FrS.ar⟩, trivial⟩ [] trivial ?_
    exact g_fin ⟨.inl rfl, id, _, rfl, .refl _, trivial, rfl, rfl⟩
  have hlt : i < (lst s).length := by have := of_decide_eq_true hh; omega
  clear hh
  obtain ⟨c, hc⟩ := exists_at hlt
  have hK := class_ok c.toNat
  have w1 : IntKind.i64.wrap ((i : Int) - bg) = (i : Int) - bg := wrap64 (by omega)
  have w2 : IntKind.i64.wrap ((i : Int) - bg + 1) = (i : Int) - bg + 1 := wrap64 (by omega)
  cases hbl : blB c with
  | true =>
    have hcl := blB_iff.1 hbl
    rw [step_blank _ _ hc hbl] at hL
    rw [hcl] at hK
    repeat' first | refine g_go T hC true 400 rfl rfl ?_ | (exfalso; simp at h; done) | refine g_cond rfl (fun h => ?_) (fun h => ?_) | refine g_end T hC (by kernel_rfl) ?_ | refine g_splitD (fun h => ?_) (fun h => ?_) | refine g_splitG rfl rfl rfl (fun h => ?_) (fun h => ?_) | refine g_splitP rfl rfl (fun h => ?_) (fun h => ?_) | refine g_idxS T hC rfl rfl rfl (Int.natCast_nonneg _) (lst_at hc) rfl rfl ?_ | refine g_call hC (hK) rfl rfl (LeSs.refl _) rfl rfl rfl ?_
    · have h10 : c = 10 := UInt8.toNat_inj.1 (by have := of_decide_eq_true h; have e : (10 : UInt8).toNat = 10 := rfl; omega)
      subst h10
      dsimp only
      rw [wrapS (by omega), wrapS (by omega)]
      refine g_round (i + 1, ln + 1, i + 1, out) ⟨by simp only; omega, Nat.le_refl _, by simp only; omega, by simp only; omega, ?_⟩ id (by simp only; omega) ⟨rfl, ⟨rfl, rfl, rfl, rfl, rfl, rfl, trivial⟩, ⟨rfl, rfl, trivial⟩, rfl, fun _ _ => rfl⟩
      rw [hL]; simp [mv]
    · have h10 : c ≠ 10 := fun e => by subst e; exact absurd h (by decide)
      dsimp only
      rw [wrapS (by omega)]
      refine g_round (i + 1, ln, bg, out) ⟨by simp only; omega, by simp only; omega, by simp only; omega, by simp only; omega, ?_⟩ id (by simp only; omega) ⟨rfl, ⟨rfl, rfl, rfl, rfl, rfl, rfl, trivial⟩, ⟨rfl, rfl, trivial⟩, rfl, fun _ _ => rfl⟩
      rw [hL]; unfold mv; rw [if_neg h10]
      congr 2
      show (i : Int) - bg + 1 + 1 = ((i + 1 : Nat) : Int) - bg + 1
      omega
  | false =>
  have hcl : classS c.toNat ≠ 1 := fun e => by rw [blB_iff.2 e] at hbl; cases hbl
  by_cases h35 : c = 35
  · subst h35
    rw [show classS ((35 : UInt8).toNat : Int) = 0 from rfl] at hK
    repeat' first | refine g_go T hC true 400 rfl rfl ?_ | (exfalso; simp at h; done) | refine g_cond rfl (fun h => ?_) (fun h => ?_) | refine g_end T hC (by kernel_rfl) ?_ | refine g_splitD (fun h => ?_) (fun h => ?_) | refine g_splitG rfl rfl rfl (fun h => ?_) (fun h => ?_) | refine g_splitP rfl rfl (fun h => ?_) (fun h => ?_) | refine g_idxS T hC rfl rfl rfl (Int.natCast_nonneg _) (lst_at hc) rfl rfl ?_ | refine g_call hC (hK) rfl rfl (LeSs.refl _) rfl rfl rfl ?_
    all_goals (try (exfalso; revert h; decide))
    refine g_loop (fun k : Nat => i + k ≤ s.size ∧ (((lst s).drop i).take k).all (fun b => decide (b ≠ 10)) = true) (fun k => ([(0, Sr s), (3, .one (.bx 1003 0)), (5, .one (.ar 101)), (6, I ln), (7, I bg), (8, I (i + k : Nat))], [(1003, some (Res.box [.p (ki 0), .p (ki 0)])), (101, some (Res.arr 5 (out.map tokR)))])) (fun k => s.size - i - k) hC
      0 ⟨by omega, by simp⟩ id ⟨rfl, ⟨rfl, rfl, rfl, rfl, rfl, rfl, trivial⟩, ⟨rfl, rfl, trivial⟩, rfl, fun _ _ => rfl⟩ ?_
    rintro k ⟨hk, hall⟩
    have hcom : (∀ x, ((lst s).drop i)[k]? = some x → x = 10) → 0 < k ∧ R = lxx ((lst s).drop (i + k)) (ln, ((i + k : Nat) : Int) - bg + 1) out := fun hx => by
      have htw := tw_end _ k hall (fun x h => by simpa using hx x h)
      refine ⟨?_, ?_⟩
      · rcases Nat.eq_zero_or_pos k with rfl | h
        · have := hx 35 (by rw [List.getElem?_drop]; exact hc)
          cases this
        · exact h
      · rw [hL, step_com _ _ hc (k := k) (by rw [htw, List.length_take, List.length_drop]; omega)]
        have e : (i : Int) - bg + 1 + k = ((i + k : Nat) : Int) - bg + 1 := by omega
        show lxx _ ((ln : Int), (i : Int) - bg + 1 + k) out = _
        rw [e]
    refine g_run' T hC true 200 rfl ?_
    by_cases hj : i + k < s.size
    · obtain ⟨x, hx⟩ := exists_at (l := lst s) (i := i + k) (by omega)
      have hxd : ((lst s).drop i)[k]? = some x := by rw [List.getElem?_drop]; exact hx
      repeat' first | refine g_go T hC true 400 rfl rfl ?_ | (exfalso; have h2 := of_decide_eq_false h; omega) | refine g_cond rfl (fun h => ?_) (fun h => ?_) | refine g_end T hC (by kernel_rfl) ?_ | refine g_splitD (fun h => ?_) (fun h => ?_) | refine g_splitG rfl rfl rfl (fun h => ?_) (fun h => ?_) | refine g_splitP rfl rfl (fun h => ?_) (fun h => ?_) | refine g_idxS T hC rfl rfl rfl (Int.natCast_nonneg _) (lst_at hx) rfl rfl ?_ | refine g_outE ?_
      · have hx10 : x ≠ 10 := fun e => by subst e; exact absurd h (by decide)
        rw [wrapS (by omega)]
        exact g_round (k + 1) ⟨by omega, by rw [all_take hxd, hall]; simpa using hx10⟩ id (by omega) ⟨rfl, ⟨rfl, rfl, rfl, rfl, rfl, rfl, trivial⟩, ⟨rfl, rfl, trivial⟩, rfl, fun _ _ => rfl⟩
      · obtain ⟨h0, hL'⟩ := hcom fun y hy => by
          rw [hxd] at hy
          obtain rfl := Option.some.inj hy
          exact UInt8.toNat_inj.1 (by have e2 : (10 : UInt8).toNat = 10 := rfl; simp at h; omega)
        exact g_round (i + k, ln, bg, out) ⟨by simp only; omega, by simp only; omega, by simp only; omega, by simp only; omega, hL'⟩ id (by simp only; omega) ⟨rfl, ⟨rfl, rfl, rfl, rfl, rfl, rfl, trivial⟩, ⟨rfl, rfl, trivial⟩, rfl, fun _ _ => rfl⟩
    · repeat' first | refine g_go T hC true 400 rfl rfl ?_ | (exfalso; have h2 := of_decide_eq_true h; omega) | refine g_cond rfl (fun h => ?_) (fun h => ?_) | refine g_end T hC (by kernel_rfl) ?_ | refine g_splitD (fun h => ?_) (fun h => ?_) | refine g_splitG rfl rfl rfl (fun h => ?_) (fun h => ?_) | refine g_splitP rfl rfl (fun h => ?_) (fun h => ?_) | refine g_outE ?_
      obtain ⟨h0, hL'⟩ := hcom fun y hy => by
        rw [List.getElem?_drop, List.getElem?_eq_none (by omega)] at hy
        cases hy
      exact g_round (i + k, ln, bg, out) ⟨by simp only; omega, by simp only; omega, by simp only; omega, by simp only; omega, hL'⟩ id (by simp only; omega) ⟨rfl, ⟨rfl, rfl, rfl, rfl, rfl, rfl, trivial⟩, ⟨rfl, rfl, trivial⟩, rfl, fun _ _ => rfl⟩
  have hwd := @wB_iff c
  have h35c : ¬ (c.toNat : Int) = 35 := fun e => h35 (UInt8.toNat_inj.1 (by have e2 : (35 : UInt8).toNat = 35 := rfl; omega))
  generalize hcv : classS (c.toNat : Int) = cv at hK hcl hwd
  cases hw : wB c with
  | true =>
    rw [hw] at hwd
    have hcw : 2 ≤ cv := hwd.1 rfl
    repeat' first | refine g_go T hC true 400 rfl rfl ?_ | (exfalso; have h2 := of_decide_eq_false h; omega) | (exfalso; have h2 := of_decide_eq_true h; omega) | refine g_cond rfl (fun h => ?_) (fun h => ?_) | refine g_end T hC (by kernel_rfl) ?_ | refine g_splitD (fun h => ?_) (fun h => ?_) | refine g_splitG rfl rfl rfl (fun h => ?_) (fun h => ?_) | refine g_splitP rfl rfl (fun h => ?_) (fun h => ?_) | refine g_idxS T hC rfl rfl rfl (Int.natCast_nonneg _) (lst_at hc) rfl rfl ?_ | refine g_call hC (hK) rfl rfl (LeSs.refl _) rfl rfl rfl ?_
    dsimp only
    rw [w1, w2]
    refine g_loop (fun k : Nat => i + k ≤ s.size ∧ (((lst s).drop i).take k).all wB = true) (fun k => ([(0, Sr s), (3, .one (.bx 1003 0)), (5, .one (.ar 101)), (6, I ln), (7, I bg), (8, I i), (9, .one (.bx 1009 0)), (11, I (i + k : Nat))], [(1003, some (Res.box [.p (ki 0), .p (ki 0)])), (1009, some (Res.box [.p (ki ln), .p (ki ((i : Int) - bg + 1))])), (101, some (Res.arr 5 (out.map tokR)))])) (fun k => s.size - i - k) hC
      0 ⟨by omega, by simp⟩ id ⟨rfl, ⟨rfl, rfl, rfl, rfl, rfl, rfl, rfl, rfl, trivial⟩, ⟨rfl, rfl, rfl, trivial⟩, rfl, fun _ _ => rfl⟩ ?_
    rintro k ⟨hk, hall⟩
    have hwe : (∀ x, ((lst s).drop i)[k]? = some x → wB x = false) → 0 < k ∧ ((lst s).drop i).takeWhile wB = ((lst s).drop i).take k ∧ (((lst s).drop i).takeWhile wB).length = k := fun hx => by
      have htw := tw_end _ k hall hx
      refine ⟨?_, htw, ?_⟩
      · rcases Nat.eq_zero_or_pos k with rfl | h
        · have := hx c (by rw [List.getElem?_drop]; exact hc)
          rw [hw] at this; cases this
        · exact h
      · rw [htw, List.length_take, List.length_drop]; omega
    have hex : s.extract i (i + k) = strOf (((lst s).drop i).take k) := by rw [extract_str, show i + k - i = k by omega]
    have hlx : lst (s.extract ((i : Nat) : Int).toNat ((i + k : Nat) : Int).toNat) = ((lst s).drop i).take k := by rw [Int.toNat_natCast, Int.toNat_natCast, hex, lst_str]
    have hW := lexWord_ok (s.extract ((i : Nat) : Int).toNat ((i + k : Nat) : Int).toNat) (by rw [← lst_len, hlx, List.length_take]; omega)
    rw [hlx] at hW
    have hol : (out.map tokR).length = out.length := List.length_map _
    by_cases hend : ∃ x, (lst s)[i + k]? = some x ∧ wB x = true
    · obtain ⟨x, hx, hwx⟩ := hend
      have hxd : ((lst s).drop i)[k]? = some x := by rw [List.getElem?_drop]; exact hx
      have hxl := (List.getElem?_eq_some_iff.1 hx).1
      have hKx := class_ok x.toNat
      have hcx := wB_iff.1 hwx
      refine g_run' T hC true 200 rfl ?_
      repeat' first | refine g_go T hC true 400 rfl rfl ?_ | (exfalso; have h2 := of_decide_eq_false h; omega) | (exfalso; have h2 := of_decide_eq_true h; omega) | refine g_cond rfl (fun h => ?_) (fun h => ?_) | refine g_end T hC (by kernel_rfl) ?_ | refine g_splitD (fun h => ?_) (fun h => ?_) | refine g_splitG rfl rfl rfl (fun h => ?_) (fun h => ?_) | refine g_splitP rfl rfl (fun h => ?_) (fun h => ?_) | refine g_idxS T hC rfl rfl rfl (Int.natCast_nonneg _) (lst_at hx) rfl rfl ?_ | refine g_call hC (hKx) rfl rfl (LeSs.refl _) rfl rfl rfl ?_
      rw [wrapS (by omega)]
      exact g_round (k + 1) ⟨by omega, by rw [all_take hxd, hall, hwx]; rfl⟩ id (by omega) ⟨rfl, ⟨rfl, rfl, rfl, rfl, rfl, rfl, rfl, rfl, trivial⟩, ⟨rfl, rfl, rfl, trivial⟩, rfl, fun _ _ => rfl⟩
    · have hno : ∀ x, ((lst s).drop i)[k]? = some x → wB x = false := fun x hx => by
        rw [List.getElem?_drop] at hx
        cases hwx : wB x with
        | false => rfl
        | true => exact absurd ⟨x, hx, hwx⟩ hend
      obtain ⟨h0, htw, hlen⟩ := hwe hno
      have hend2 : s.size ≤ i + k ∨ ∃ x, (lst s)[i + k]? = some x ∧ ¬ 2 ≤ classS (x.toNat : Int) := by
        by_cases hz : s.size ≤ i + k
        · exact .inl hz
        · obtain ⟨x, hx⟩ := exists_at (l := lst s) (i := i + k) (by omega)
          refine .inr ⟨x, hx, fun e => ?_⟩
          have := hno x (by rw [List.getElem?_drop]; exact hx)
          rw [wB_iff.2 e] at this; cases this
      cases ht : clsT (((lst s).drop i).take k) with
      | none =>
        have hW2 := hW.2 ht
        have hbad := word_bad ((ln : Int), (i : Int) - bg + 1) out hc hbl h35 hw (by rw [htw]; exact ht)
        rw [hbad] at hL
        subst hL
        refine g_run' T hC true 200 rfl ?_
        rcases hend2 with hz | ⟨x, hx, hcx⟩
        · repeat' first | refine g_go T hC true 400 rfl rfl ?_ | (exfalso; have h2 := of_decide_eq_false h; omega) | (exfalso; have h2 := of_decide_eq_true h; omega) | refine g_cond rfl (fun h => ?_) (fun h => ?_) | refine g_end T hC (by kernel_rfl) ?_ | refine g_splitD (fun h => ?_) (fun h => ?_) | refine g_splitG rfl rfl rfl (fun h => ?_) (fun h => ?_) | refine g_splitP rfl rfl (fun h => ?_) (fun h => ?_) | refine g_outE ?_ | (refine g_slMid hC rfl rfl rfl (by kernel_rfl) (Int.natCast_nonneg _) (by omega) (by omega) rfl rfl ?_) | refine g_call hC (hW2) rfl rfl (LeSs.refl _) rfl rfl rfl ?_ | refine g_outR ?_
          exact g_fin ⟨.inl rfl, id, _, rfl, LeS.tup (.cons (LeS.one (.nil 5)) (.cons (.refl _) (.cons (.refl _) .nil))), trivial, rfl, rfl⟩
        · have hKx := class_ok x.toNat
          have hxl := (List.getElem?_eq_some_iff.1 hx).1
          repeat' first | refine g_go T hC true 400 rfl rfl ?_ | (exfalso; have h2 := of_decide_eq_false h; omega) | (exfalso; have h2 := of_decide_eq_true h; omega) | refine g_cond rfl (fun h => ?_) (fun h => ?_) | refine g_end T hC (by kernel_rfl) ?_ | refine g_splitD (fun h => ?_) (fun h => ?_) | refine g_splitG rfl rfl rfl (fun h => ?_) (fun h => ?_) | refine g_splitP rfl rfl (fun h => ?_) (fun h => ?_) | refine g_idxS T hC rfl rfl rfl (Int.natCast_nonneg _) (lst_at hx) rfl rfl ?_ | refine g_call hC (hKx) rfl rfl (LeSs.refl _) rfl rfl rfl ?_ | refine g_outE ?_ | (refine g_slMid hC rfl rfl rfl (by kernel_rfl) (Int.natCast_nonneg _) (by omega) (by omega) rfl rfl ?_) | refine g_call hC (hW2) rfl rfl (LeSs.refl _) rfl rfl rfl ?_ | refine g_outR ?_
          exact g_fin ⟨.inl rfl, id, _, rfl, LeS.tup (.cons (LeS.one (.nil 5)) (.cons (.refl _) (.cons (.refl _) .nil))), trivial, rfl, rfl⟩
      | some t =>
        have hW1 := hW.1 t ht
        have hgo := step_word ((ln : Int), (i : Int) - bg + 1) out hc hbl h35 hw (t := t) (by rw [htw]; exact ht)
        rw [hlen] at hgo
        rw [hgo] at hL
        have e : (i : Int) - bg + 1 + k = ((i + k : Nat) : Int) - bg + 1 := by omega
        simp only [e] at hL
        have happ : out.map tokR ++ [tokR (tokAt ((ln : Int), (i : Int) - bg + 1) t)] = (out ++ [tokAt ((ln : Int), (i : Int) - bg + 1) t]).map tokR := by rw [List.map_append]; rfl
        refine g_run' T hC true 200 rfl ?_
        rcases hend2 with hz | ⟨x, hx, hcx⟩
        · repeat' first | refine g_go T hC true 400 rfl rfl ?_ | (exfalso; have h2 := of_decide_eq_false h; omega) | (exfalso; have h2 := of_decide_eq_true h; omega) | refine g_cond rfl (fun h => ?_) (fun h => ?_) | refine g_end T hC (by kernel_rfl) ?_ | refine g_splitD (fun h => ?_) (fun h => ?_) | refine g_splitG rfl rfl rfl (fun h => ?_) (fun h => ?_) | refine g_splitP rfl rfl (fun h => ?_) (fun h => ?_) | refine g_outE ?_ | (refine g_slMid hC rfl rfl rfl (by kernel_rfl) (Int.natCast_nonneg _) (by omega) (by omega) rfl rfl ?_) | refine g_call hC (hW1) rfl rfl (LeSs.refl _) rfl rfl rfl ?_ | refine g_lit T hC rfl rfl rfl rfl rfl rfl rfl rfl rfl ?_ | (refine g_append T 102 hC (rows := out.map tokR) (rows2 := [tokR (tokAt ((ln : Int), (i : Int) - bg + 1) t)]) (rows3 := (out ++ [tokAt ((ln : Int), (i : Int) - bg + 1) t]).map tokR) (bytes := 48) rfl rfl rfl rfl (SrcS.sl (T.es_ok _ _ rfl)) happ rfl rfl rfl (by kernel_rfl) (by rw [hol, List.length_singleton]; omega) (by rw [hol, List.length_singleton]; omega) rfl rfl rfl ?_) | refine g_outR ?_
          exact g_round (i + k, ln, bg, out ++ [tokAt ((ln : Int), (i : Int) - bg + 1) t]) ⟨by simp only; omega, by simp only; omega, by simp only; omega, by simp only [List.length_append, List.length_singleton]; omega, hL⟩ (mvU 101 102) (by simp only; omega) ⟨rfl, ⟨rfl, rfl, rfl, rfl, rfl, rfl, trivial⟩, ⟨rfl, rfl, trivial⟩, rfl, fun i hi => mvU_low (by omega) hi⟩
        · have hKx := class_ok x.toNat
          have hxl := (List.getElem?_eq_some_iff.1 hx).1
          repeat' first | refine g_go T hC true 400 rfl rfl ?_ | (exfalso; have h2 := of_decide_eq_false h; omega) | (exfalso; have h2 := of_decide_eq_true h; omega) | refine g_cond rfl (fun h => ?_) (fun h => ?_) | refine g_end T hC (by kernel_rfl) ?_ | refine g_splitD (fun h => ?_) (fun h => ?_) | refine g_splitG rfl rfl rfl (fun h => ?_) (fun h => ?_) | refine g_splitP rfl rfl (fun h => ?_) (fun h => ?_) | refine g_idxS T hC rfl rfl rfl (Int.natCast_nonneg _) (lst_at hx) rfl rfl ?_ | refine g_call hC (hKx) rfl rfl (LeSs.refl _) rfl rfl rfl ?_ | refine g_outE ?_ | (refine g_slMid hC rfl rfl rfl (by kernel_rfl) (Int.natCast_nonneg _) (by omega) (by omega) rfl rfl ?_) | refine g_call hC (hW1) rfl rfl (LeSs.refl _) rfl rfl rfl ?_ | refine g_lit T hC rfl rfl rfl rfl rfl rfl rfl rfl rfl ?_ | (refine g_append T 102 hC (rows := out.map tokR) (rows2 := [tokR (tokAt ((ln : Int), (i : Int) - bg + 1) t)]) (rows3 := (out ++ [tokAt ((ln : Int), (i : Int) - bg + 1) t]).map tokR) (bytes := 48) rfl rfl rfl rfl (SrcS.sl (T.es_ok _ _ rfl)) happ rfl rfl rfl (by kernel_rfl) (by rw [hol, List.length_singleton]; omega) (by rw [hol, List.length_singleton]; omega) rfl rfl rfl ?_) | refine g_outR ?_
          exact g_round (i + k, ln, bg, out ++ [tokAt ((ln : Int), (i : Int) - bg + 1) t]) ⟨by simp only; omega, by simp only; omega, by simp only; omega, by simp only [List.length_append, List.length_singleton]; omega, hL⟩ (mvU 101 102) (by simp only; omega) ⟨rfl, ⟨rfl, rfl, rfl, rfl, rfl, rfl, trivial⟩, ⟨rfl, rfl, trivial⟩, rfl, fun i hi => mvU_low (by omega) hi⟩
  | false =>
    rw [hw] at hwd
    have hcw : ¬ 2 ≤ cv := fun e => by have := hwd.2 e; cases this
    repeat' first | refine g_go T hC true 400 rfl rfl ?_ | (exfalso; have h2 := of_decide_eq_false h; omega) | (exfalso; have h2 := of_decide_eq_true h; omega) | refine g_cond rfl (fun h => ?_) (fun h => ?_) | refine g_end T hC (by kernel_rfl) ?_ | refine g_splitD (fun h => ?_) (fun h => ?_) | refine g_splitG rfl rfl rfl (fun h => ?_) (fun h => ?_) | refine g_splitP rfl rfl (fun h => ?_) (fun h => ?_) | refine g_idxS T hC rfl rfl rfl (Int.natCast_nonneg _) (lst_at hc) rfl rfl ?_ | refine g_call hC (hK) rfl rfl (LeSs.refl _) rfl rfl rfl ?_
    dsimp only
    rw [w1, w2]
    have hsx : lst (s.extract ((i : Nat) : Int).toNat s.size) = (lst s).drop i := by rw [Int.toNat_natCast, extract_str, lst_str, List.take_of_length_le (by rw [List.length_drop]; omega)]
    have hS := symbol_ok (s.extract ((i : Nat) : Int).toNat s.size)
    rw [hsx] at hS
    have hol : (out.map tokR).length = out.length := List.length_map _
    cases hy : symL ((lst s).drop i) with
    | none =>
      rw [hy] at hS
      have hbad := sym_bad ((ln : Int), (i : Int) - bg + 1) out hc hbl h35 hw hy
      rw [hbad] at hL
      subst hL
      repeat' first | refine g_go T hC true 400 rfl rfl ?_ | (exfalso; exact absurd h (by decide)) | refine g_cond rfl (fun h => ?_) (fun h => ?_) | refine g_end T hC (by kernel_rfl) ?_ | refine g_splitD (fun h => ?_) (fun h => ?_) | refine g_splitG rfl rfl rfl (fun h => ?_) (fun h => ?_) | refine g_splitP rfl rfl (fun h => ?_) (fun h => ?_) | (refine g_slFrom hC rfl rfl (by kernel_rfl) (Int.natCast_nonneg _) (by omega) rfl rfl ?_) | refine g_call hC (hS) rfl rfl (LeSs.refl _) rfl rfl rfl ?_ | refine g_outR ?_
      exact g_fin ⟨.inl rfl, id, _, rfl, LeS.tup (.cons (LeS.one (.nil 5)) (.cons (.refl _) (.cons (.refl _) .nil))), trivial, rfl, rfl⟩
    | some y =>
      rw [hy] at hS
      have hys := sym_of hy
      have hyz := syms_size y hys.1
      have hyl := isPrefix_len hys.2
      rw [lst_len, List.length_drop] at hyl
      have hyne : y ≠ ⟨#[]⟩ := fun e => by subst e; exact absurd hyz.1 (by decide)
      have hgo := step_sym ((ln : Int), (i : Int) - bg + 1) out hc hbl h35 hw hy
      rw [hgo] at hL
      have e : (i : Int) - bg + 1 + (y.size : Int) = ((i + y.size : Nat) : Int) - bg + 1 := by omega
      simp only [e] at hL
      have happ : out.map tokR ++ [tokR (tokAt ((ln : Int), (i : Int) - bg + 1) (4, y, 0))] = (out ++ [tokAt ((ln : Int), (i : Int) - bg + 1) (4, y, 0)]).map tokR := by rw [List.map_append]; rfl
      repeat' first | refine g_go T hC true 400 rfl rfl ?_ | (exfalso; exact hyne (of_decide_eq_true h)) | refine g_cond rfl (fun h => ?_) (fun h => ?_) | refine g_end T hC (by kernel_rfl) ?_ | refine g_splitD (fun h => ?_) (fun h => ?_) | refine g_splitG rfl rfl rfl (fun h => ?_) (fun h => ?_) | refine g_splitP rfl rfl (fun h => ?_) (fun h => ?_) | (refine g_slFrom hC rfl rfl (by kernel_rfl) (Int.natCast_nonneg _) (by omega) rfl rfl ?_) | refine g_call hC (hS) rfl rfl (LeSs.refl _) rfl rfl rfl ?_ | refine g_lit T hC rfl rfl rfl rfl rfl rfl rfl rfl rfl ?_ | (refine g_append T 102 hC (rows := out.map tokR) (rows2 := [tokR (tokAt ((ln : Int), (i : Int) - bg + 1) (4, y, 0))]) (rows3 := (out ++ [tokAt ((ln : Int), (i : Int) - bg + 1) (4, y, 0)]).map tokR) (bytes := 48) rfl rfl rfl rfl (SrcS.sl (T.es_ok _ _ rfl)) happ rfl rfl rfl (by kernel_rfl) (by rw [hol, List.length_singleton]; omega) (by rw [hol, List.length_singleton]; omega) rfl rfl rfl ?_) | refine g_outR ?_
      show Goal _ _ _ _ _ ((8, Kk IntKind.i64 (IntKind.i64.wrap ((i : Int) + (y.size : Int)))) :: _) _ _
      rw [show IntKind.i64.wrap ((i : Int) + (y.size : Int)) = ((i + y.size : Nat) : Int) from by rw [wrap64 (by omega)]; omega]
      exact g_round (i + y.size, ln, bg, out ++ [tokAt ((ln : Int), (i : Int) - bg + 1) (4, y, 0)]) ⟨by simp only; omega, by simp only; omega, by simp only; omega, by simp only [List.length_append, List.length_singleton]; omega, hL⟩ (mvU 101 102) (by simp only; omega) ⟨rfl, ⟨rfl, rfl, rfl, rfl, rfl, rfl, trivial⟩, ⟨rfl, rfl, trivial⟩, rfl, fun i hi => mvU_low (by omega) hi⟩
end Hw.Pa
namespace Hw.Pa
open Go Go.Proofs Go.Shelf Hw.M

end Hw.Pa
namespace Hw.Pa
open Go Go.Proofs Go.Shelf Hw.M

def tokSc (t : Tok) : List Sc := [.i .i64 t.k, .s t.t, .i .i64 t.n, .i .i64 t.ln, .i .i64 t.cl]
def aw1 : Str := (⟨#[120, 46, 108, 101, 102, 116, 60, 61, 51, 32, 35, 32, 110, 111]⟩ : ByteArray)
def aw2 : Str := (⟨#[97, 32, 61, 32, 48, 49]⟩ : ByteArray)
def awT : List Tok := [⟨1, (⟨#[120]⟩ : ByteArray), 0, 1, 1⟩, ⟨4, (⟨#[46]⟩ : ByteArray), 0, 1, 2⟩, ⟨1, (⟨#[108, 101, 102, 116]⟩ : ByteArray), 0, 1, 3⟩, ⟨4, (⟨#[60, 61]⟩ : ByteArray), 0, 1, 7⟩, ⟨2, (⟨#[]⟩ : ByteArray), 3, 1, 9⟩, ⟨5, (⟨#[]⟩ : ByteArray), 0, 1, 15⟩]
end Hw.Pa
namespace Hw.Pa
open Go Go.Proofs Go.Shelf Hw.M

def symIn (s : Str) : Bool := syms.any fun x => decide (x = s)
def validF (t : Tok) : Bool := if t.k = 1 then isName t.t && decide (t.n = 0) else if t.k = 3 then isKeyword t.t && decide (t.n = 0) else if t.k = 4 then symIn t.t && decide (t.n = 0) else if t.k = 2 then decide (t.t = (⟨#[]⟩ : ByteArray)) && (decide (0 ≤ t.n) && decide (t.n ≤ 1099511627776)) else if t.k = 5 then decide (t.t = (⟨#[]⟩ : ByteArray)) && decide (t.n = 0) else false
theorem syms_self : ∀ y ∈ syms, y ≠ (⟨#[]⟩ : ByteArray) ∧ (symL (lst y)).getD (⟨#[]⟩ : ByteArray) = y := by decide +kernel
theorem symIn_iff (s : Str) : symIn s = true ↔ s ∈ syms := by
  unfold symIn; rw [List.any_eq_true]
  exact ⟨fun ⟨x, h1, h2⟩ => by have := of_decide_eq_true h2; subst this; exact h1, fun h => ⟨s, h, decide_eq_true rfl⟩⟩
theorem sym_iff (s : Str) : symIn s = true ↔ s ≠ (⟨#[]⟩ : ByteArray) ∧ (symL (lst s)).getD (⟨#[]⟩ : ByteArray) = s := by
  rw [symIn_iff]
  refine ⟨syms_self s, fun ⟨h1, h2⟩ => ?_⟩
  cases h : symL (lst s) with
  | none => rw [h] at h2; exact absurd h2.symm h1
  | some y => rw [h] at h2; have := (sym_of h).1; simp only [Option.getD_some] at h2; rw [← h2]; exact this
theorem lexValid_ok (t : Tok) : FnOK Tryz.prog 56 [aggS (tokR t)] [] (.bq (validF t)) [] := by
  obtain ⟨k, s, n, ln, cl⟩ := t
  have hN := lexName_ok s
  have hK := lexKeyword_ok s
  have hS := symbol_ok s
  have hI := sym_iff s
  unfold validF
  simp only
  generalize isName s = qn at hN ⊢
  generalize isKeyword s = qk at hK ⊢
  generalize symIn s = qs at hI ⊢
  generalize (symL (lst s)).getD (⟨#[]⟩ : ByteArray) = y at hS hI
  refine fn_ok T Tryz.func56 (by kernel_rfl) rfl rfl rfl rfl fun C hC => ?_
  repeat' first | refine g_go T hC true 400 rfl rfl ?_ | refine g_cond rfl (fun h => ?_) (fun h => ?_) | refine g_end T hC (by kernel_rfl) ?_ | refine g_splitD (fun h => ?_) (fun h => ?_) | refine g_splitG rfl rfl rfl (fun h => ?_) (fun h => ?_) | refine g_splitP rfl rfl (fun h => ?_) (fun h => ?_) | refine g_call hC (hN) rfl rfl (LeSs.refl _) rfl rfl rfl ?_ | refine g_call hC (hK) rfl rfl (LeSs.refl _) rfl rfl rfl ?_ | refine g_call hC (hS) rfl rfl (LeSs.refl _) rfl rfl rfl ?_ | refine g_retq T (.inl rfl) rfl ?_ | refine g_retl T (.inl rfl) rfl ?_
  all_goals clear hN hK hS
  all_goals first
    | (simp_all; done)
    | (simp_all; omega)
    | (intros; simp_all <;> omega)
end Hw.Pa
namespace Hw.Pa
open Go Go.Proofs Go.Shelf Hw.M

def ltP (a b : Int × Int) : Prop := a.1 < b.1 ∨ a.1 = b.1 ∧ a.2 < b.2
theorem ltP.trans {a b c : Int × Int} (h : ltP a b) (h2 : ltP b c) : ltP a c := by unfold ltP at *; omega
theorem ltP_mv (p : Int × Int) (c : UInt8) (_hp : 1 ≤ p.2) : ltP p (mv p c) := by
  unfold mv ltP; split
  · left; simp only; omega
  · right; refine ⟨rfl, ?_⟩; simp only; omega
theorem mv_pos {p : Int × Int} (c : UInt8) (h : 1 ≤ p.1 ∧ 1 ≤ p.2) : 1 ≤ (mv p c).1 ∧ 1 ≤ (mv p c).2 := by
  unfold mv; split
  · simp only; omega
  · simp only; omega
theorem mvs_pos : ∀ (l : By) {p : Int × Int}, (1 ≤ p.1 ∧ 1 ≤ p.2) → 1 ≤ (l.foldl mv p).1 ∧ 1 ≤ (l.foldl mv p).2
  | [], _, h => h
  | c :: l, _, h => mvs_pos l (mv_pos c h)
theorem ltP_mvs : ∀ (l : By) {p : Int × Int}, (1 ≤ p.1 ∧ 1 ≤ p.2) → l ≠ [] → ltP p (l.foldl mv p)
  | [], _, _, h => absurd rfl h
  | [c], p, h, _ => ltP_mv p c h.2
  | c :: d :: l, p, h, _ => (ltP_mv p c h.2).trans (ltP_mvs (d :: l) (mv_pos c h) (by simp))
def posT (t : Tok) : Int × Int := (t.ln, t.cl)
structure InvT (out : List Tok) (p : Int × Int) : Prop where
  pos : 1 ≤ p.1 ∧ 1 ≤ p.2
  each : ∀ t ∈ out, validF t = true ∧ t.k ≠ 5 ∧ 1 ≤ t.ln ∧ 1 ≤ t.cl ∧ ltP (posT t) p
  asc : ∀ (i : Nat) x y, out[i]? = some x → out[i + 1]? = some y → ltP (posT x) (posT y)
theorem InvT.move {out : List Tok} {p q : Int × Int} (h : InvT out p) (hq : 1 ≤ q.1 ∧ 1 ≤ q.2) (hl : ltP p q) : InvT out q :=
  ⟨hq, fun t ht => let ⟨a, b, c, d, e⟩ := h.each t ht; ⟨a, b, c, d, e.trans hl⟩, h.asc⟩
theorem InvT.add {out : List Tok} {p q : Int × Int} (h : InvT out p) (hq : 1 ≤ q.1 ∧ 1 ≤ q.2) (hl : ltP p q) {t : Tok} (hv : validF t = true) (h5 : t.k ≠ 5) (ht : posT t = p) : InvT (out ++ [t]) q := by
  refine ⟨hq, fun u hu => ?_, fun i x y hx hy => ?_⟩
  · rcases List.mem_append.1 hu with hu | hu
    · exact (h.move hq hl).each u hu
    · obtain rfl := List.mem_singleton.1 hu
      have e1 : u.ln = p.1 := congrArg Prod.fst ht
      have e2 : u.cl = p.2 := congrArg Prod.snd ht
      exact ⟨hv, h5, by rw [e1]; exact h.pos.1, by rw [e2]; exact h.pos.2, by rw [ht]; exact hl⟩
  · have hlen := (List.getElem?_eq_some_iff.1 hy).1
    simp only [List.length_append, List.length_singleton] at hlen
    rw [List.getElem?_append_left (by omega)] at hx
    rcases Nat.lt_or_ge (i + 1) out.length with h1 | h1
    · rw [List.getElem?_append_left h1] at hy
      exact h.asc i x y hx hy
    · rw [List.getElem?_append_right h1, show i + 1 - out.length = 0 by omega] at hy
      simp only [List.getElem?_cons_zero, Option.some.injEq] at hy
      subst hy
      rw [ht]
      exact (h.each x (List.mem_of_getElem? hx)).2.2.2.2
theorem clsT_valid {w : By} {t : Int × Str × Int} (h : clsT w = some t) (p : Int × Int) : validF (tokAt p t) = true ∧ (tokAt p t).k ≠ 5 := by
  unfold clsT at h
  split at h
  · rename_i hk
    simp only [Option.some.injEq] at h
    subst h
    refine ⟨?_, by show (3 : Int) ≠ 5; decide⟩
    unfold validF tokAt
    simp [hk]
  · split at h
    · rename_i hk
      simp only [Option.some.injEq] at h
      subst h
      refine ⟨?_, by show (1 : Int) ≠ 5; decide⟩
      unfold validF tokAt
      simp [hk]
    · split at h
      · rename_i hn
        simp only [Option.some.injEq] at h
        subst h
        refine ⟨?_, by show (2 : Int) ≠ 5; decide⟩
        unfold numOk at hn
        simp only [Bool.and_eq_true, decide_eq_true_eq] at hn
        have h0 := numV_ge hn.1.2
        unfold validF tokAt
        simp only
        simp [h0, hn.2]
      · cases h
theorem tk_valid {l : By} {n : Nat} {t : Int × Str × Int} (h : tk l = some (n, some t)) (p : Int × Int) : validF (tokAt p t) = true ∧ (tokAt p t).k ≠ 5 := by
  cases l with
  | nil => cases h
  | cons c r =>
    simp only [tk] at h
    split at h
    · simp at h
    · split at h
      · simp at h
      · split at h
        · rw [Option.map_eq_some_iff] at h
          obtain ⟨u, hu, h⟩ := h
          simp only [Prod.mk.injEq, Option.some.injEq] at h
          rw [← h.2]
          exact clsT_valid hu p
        · rw [Option.map_eq_some_iff] at h
          obtain ⟨y, hy, h⟩ := h
          simp only [Prod.mk.injEq, Option.some.injEq] at h
          rw [← h.2]
          refine ⟨?_, by show (4 : Int) ≠ 5; decide⟩
          have := (symIn_iff y).2 (sym_of hy).1
          unfold validF tokAt
          simp [this]
theorem lx_inv : ∀ (f : Nat) (l : By) (p : Int × Int) (out : List Tok), l.length < f → InvT out p →
    (∃ o q, lx f l p out = (o ++ [⟨5, (⟨#[]⟩ : ByteArray), 0, q.1, q.2⟩], (0, 0), 0) ∧ InvT o q ∧ o.length ≤ out.length + l.length) ∨ ∃ q, lx f l p out = ([], q, 7)
  | 0, l, _, _, h, _ => absurd h (Nat.not_lt_zero _)
  | f + 1, [], p, out, _, h => .inl ⟨out, p, rfl, h, by simp⟩
  | f + 1, c :: r, p, out, hf, h => by
    simp only [lx]
    cases e : tk (c :: r) with
    | none => exact .inr ⟨p, rfl⟩
    | some x =>
      obtain ⟨n, o⟩ := x
      have hp := tk_pos e
      simp only [List.length_cons] at hf hp
      have hd : ((c :: r).drop n).length = r.length + 1 - n := by rw [List.length_drop, List.length_cons]
      have hne : (c :: r).take n ≠ [] := fun e => by have := congrArg List.length e; simp at this; omega
      have hq := mvs_pos ((c :: r).take n) h.pos
      have hl := ltP_mvs ((c :: r).take n) h.pos hne
      simp only
      cases o with
      | none =>
        rw [show out ++ ((none : Option (Int × Str × Int)).map (tokAt p)).toList = out by simp]
        rcases lx_inv f ((c :: r).drop n) (((c :: r).take n).foldl mv p) out (by omega) (h.move hq hl) with ⟨o', q, e1, e2, e3⟩ | h2
        · exact .inl ⟨o', q, e1, e2, by simp only [List.length_cons]; omega⟩
        · exact .inr h2
      | some t =>
        have hv := tk_valid e p
        rw [show out ++ ((some t).map (tokAt p)).toList = out ++ [tokAt p t] by simp]
        rcases lx_inv f ((c :: r).drop n) (((c :: r).take n).foldl mv p) (out ++ [tokAt p t]) (by omega) (h.add hq hl hv.1 hv.2 rfl) with ⟨o', q, e1, e2, e3⟩ | h2
        · refine .inl ⟨o', q, e1, e2, ?_⟩
          simp only [List.length_append, List.length_cons, List.length_nil] at e3 ⊢; omega
        · exact .inr h2
theorem tokens_cases (s : Str) (hs : s.size ≤ 65536) : (∃ o q, tokensS s = (o ++ [⟨5, (⟨#[]⟩ : ByteArray), 0, q.1, q.2⟩], (0, 0), 0) ∧ InvT o q ∧ o.length ≤ s.size) ∨ ∃ q, tokensS s = ([], q, 7) := by
  unfold tokensS
  rw [if_neg (by omega)]
  rcases lx_inv ((lst s).length + 1) (lst s) (1, 1) [] (Nat.lt_succ_self _) ⟨⟨by decide, by decide⟩, (fun t ht => by cases ht), (fun i x y hx => by cases hx)⟩ with ⟨o, q, e1, e2, e3⟩ | h
  · exact .inl ⟨o, q, e1, e2, by rw [lst_len] at e3; simpa using e3⟩
  · exact .inr h
theorem valid_num {t : Tok} (h : validF t = true) : 0 ≤ t.n ∧ t.n ≤ 1099511627776 := by
  unfold validF at h
  repeat' (split at h)
  all_goals first
    | (simp only [Bool.and_eq_true, decide_eq_true_eq] at h; omega)
    | cases h
theorem tok_good {o : List Tok} {q : Int × Int} (h : InvT o q) (hl : o.length ≤ 65536) : GoodL (o ++ [⟨5, (⟨#[]⟩ : ByteArray), 0, q.1, q.2⟩]) := by
  refine ⟨by rw [List.length_append, List.length_singleton]; omega, ⟨_, by rw [List.length_append, List.length_singleton, Nat.add_sub_cancel, List.getElem?_append_right (Nat.le_refl _), Nat.sub_self]; rfl, rfl⟩, fun t ht => ?_⟩
  rcases List.mem_append.1 ht with h1 | h1
  · exact valid_num (h.each t h1).1
  · obtain rfl := List.mem_singleton.1 h1
    exact ⟨Int.le_refl _, by show (0 : Int) ≤ 1099511627776; decide⟩
theorem tokens_good (s : Str) : (∃ l, tokensS s = (l, (0, 0), 0) ∧ GoodL l ∧ l.length ≤ s.size + 1) ∨ ∃ q e, tokensS s = ([], q, e) ∧ (e = 7 ∨ e = 4) := by
  by_cases hs : s.size ≤ 65536
  · rcases tokens_cases s hs with ⟨o, q, h1, h2, h3⟩ | ⟨q, h1⟩
    · exact .inl ⟨_, h1, tok_good h2 (by omega), by rw [List.length_append, List.length_singleton]; omega⟩
    · exact .inr ⟨q, 7, h1, .inl rfl⟩
  · exact .inr ⟨(0, 0), 4, by unfold tokensS; rw [if_pos (by omega)], .inr rfl⟩
end Hw.Pa
