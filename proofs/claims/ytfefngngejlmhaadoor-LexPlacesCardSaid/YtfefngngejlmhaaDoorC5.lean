/- The library's functions at this program: their numbers. -/
import Derived.Test.YtfefngngejlmhaaDoorProg
import Derived.KernelRfl
import Derived.Shelf.Small.Strs
import Derived.Shelf.Strings.Prefix
import Derived.Shelf.Strconv.AtoiAll
import Derived.Test.YtfefngngejlmhaaDoorC4
import Derived.Test.YtfefngngejlmhaaDoorC3
import Derived.Test.YtfefngngejlmhaaDoorE3
set_option linter.unusedVariables false
set_option linter.unusedSimpArgs false
namespace Hw.L
open Go Go.Proofs Go.Shelf
def laysIdx_ren : Go.Shelf.Ren := ⟨fun | 137 => 47 | 217 => 58 | 266 => 65 | n => n, fun | 9 => 9 | 5 => 5 | 3 => 3 | n => n, fun | n => n⟩
theorem laysIdx : Go.Proofs.Lays.n137 Tryd.prog laysIdx_ren where
  mixed := by kernel_rfl
  f137 := Tryd.func47.trans (congrArg some (by kernel_rfl))
  f217 := Tryd.func58.trans (congrArg some (by kernel_rfl))
  f266 := Tryd.func65.trans (congrArg some (by kernel_rfl))
  t3 := Tryd.underlying3
  a3 := Tryd.isAgg3
  z3 := Tryd.sizeOf3
  v3 := Tryd.zeroValue3
  t5 := Tryd.underlying5
  a5 := Tryd.isAgg5
  z5 := Tryd.sizeOf5
  v5 := Tryd.zeroValue5
  t9 := Tryd.underlying9
  a9 := Tryd.isAgg9
  z9 := Tryd.sizeOf9
  v9 := Tryd.zeroValue9
def laysPre_ren : Go.Shelf.Ren := ⟨fun | 99 => 46 | 206 => 57 | n => n, fun | 9 => 9 | 4 => 4 | 3 => 3 | n => n, fun | n => n⟩
theorem laysPre : Go.Proofs.Lays.n99 Tryd.prog laysPre_ren where
  mixed := by kernel_rfl
  f99 := Tryd.func46.trans (congrArg some (by kernel_rfl))
  f206 := Tryd.func57.trans (congrArg some (by kernel_rfl))
  t3 := Tryd.underlying3
  a3 := Tryd.isAgg3
  z3 := Tryd.sizeOf3
  v3 := Tryd.zeroValue3
  t4 := Tryd.underlying4
  a4 := Tryd.isAgg4
  z4 := Tryd.sizeOf4
  v4 := Tryd.zeroValue4
  t9 := Tryd.underlying9
  a9 := Tryd.isAgg9
  z9 := Tryd.sizeOf9
  v9 := Tryd.zeroValue9
end Hw.L
/- The library's functions at this program: their numbers. -/
namespace Hw.L
open Go Go.Proofs Go.Shelf
def laysAtoi_ren : Go.Shelf.Ren := ⟨fun | 172 => 56 | 244 => 63 | 245 => 64 | 247 => 71 | 279 => 72 | 280 => 73 | 281 => 74 | 282 => 75 | 287 => 83 | 316 => 84 | 171 => 39 | 205 => 85 | 321 => 88 | 322 => 89 | 243 => 53 | 246 => 62 | 283 => 67 | 284 => 68 | 285 => 69 | 286 => 70 | 129 => 79 | 317 => 78 | 318 => 80 | 319 => 81 | 320 => 82 | 337 => 86 | 338 => 87 | n => n, fun | 9 => 9 | 3 => 3 | 75 => 44 | 76 => 45 | 4 => 4 | 5 => 5 | 167 => 96 | 37 => 37 | 0 => 0 | 85 => 97 | 2 => 2 | 168 => 99 | 53 => 91 | 175 => 119 | 46 => 74 | 210 => 122 | 127 => 68 | 145 => 130 | 143 => 128 | 21 => 21 | 171 => 90 | 173 => 94 | 212 => 115 | 51 => 87 | 20 => 20 | 213 => 116 | 232 => 131 | 233 => 132 | 80 => 48 | n => n, fun | 15 => 4 | 16 => 5 | 17 => 3 | 18 => 6 | 19 => 7 | n => n⟩
theorem laysAtoi : Go.Proofs.LaysC.n172 Tryd.prog laysAtoi_ren where
  mixed := by kernel_rfl
  f129 := Tryd.func79.trans (congrArg some (by kernel_rfl))
  f171 := Tryd.func39.trans (congrArg some (by kernel_rfl))
  f172 := Tryd.func56.trans (congrArg some (by kernel_rfl))
  f205 := Tryd.func85.trans (congrArg some (by kernel_rfl))
  f243 := Tryd.func53.trans (congrArg some (by kernel_rfl))
  f244 := Tryd.func63.trans (congrArg some (by kernel_rfl))
  f245 := Tryd.func64.trans (congrArg some (by kernel_rfl))
  f246 := Tryd.func62.trans (congrArg some (by kernel_rfl))
  f247 := Tryd.func71.trans (congrArg some (by kernel_rfl))
  f279 := Tryd.func72.trans (congrArg some (by kernel_rfl))
  f280 := Tryd.func73.trans (congrArg some (by kernel_rfl))
  f281 := Tryd.func74.trans (congrArg some (by kernel_rfl))
  f282 := Tryd.func75.trans (congrArg some (by kernel_rfl))
  f283 := Tryd.func67.trans (congrArg some (by kernel_rfl))
  f284 := Tryd.func68.trans (congrArg some (by kernel_rfl))
  f285 := Tryd.func69.trans (congrArg some (by kernel_rfl))
  f286 := Tryd.func70.trans (congrArg some (by kernel_rfl))
  f287 := Tryd.func83.trans (congrArg some (by kernel_rfl))
  f316 := Tryd.func84.trans (congrArg some (by kernel_rfl))
  f317 := Tryd.func78.trans (congrArg some (by kernel_rfl))
  f318 := Tryd.func80.trans (congrArg some (by kernel_rfl))
  f319 := Tryd.func81.trans (congrArg some (by kernel_rfl))
  f320 := Tryd.func82.trans (congrArg some (by kernel_rfl))
  f321 := Tryd.func88.trans (congrArg some (by kernel_rfl))
  f322 := Tryd.func89.trans (congrArg some (by kernel_rfl))
  f337 := Tryd.func86.trans (congrArg some (by kernel_rfl))
  f338 := Tryd.func87.trans (congrArg some (by kernel_rfl))
  t0 := Tryd.underlying0
  a0 := Tryd.isAgg0
  z0 := Tryd.sizeOf0
  v0 := Tryd.zeroValue0
  t2 := Tryd.underlying2
  a2 := Tryd.isAgg2
  z2 := Tryd.sizeOf2
  v2 := Tryd.zeroValue2
  t3 := Tryd.underlying3
  a3 := Tryd.isAgg3
  z3 := Tryd.sizeOf3
  v3 := Tryd.zeroValue3
  t4 := Tryd.underlying4
  a4 := Tryd.isAgg4
  z4 := Tryd.sizeOf4
  v4 := Tryd.zeroValue4
  t5 := Tryd.underlying5
  a5 := Tryd.isAgg5
  z5 := Tryd.sizeOf5
  v5 := Tryd.zeroValue5
  t9 := Tryd.underlying9
  a9 := Tryd.isAgg9
  z9 := Tryd.sizeOf9
  v9 := Tryd.zeroValue9
  t20 := Tryd.underlying20
  a20 := Tryd.isAgg20
  z20 := Tryd.sizeOf20
  v20 := Tryd.zeroValue20
  t21 := Tryd.underlying21
  a21 := Tryd.isAgg21
  z21 := Tryd.sizeOf21
  v21 := Tryd.zeroValue21
  t37 := Tryd.underlying37
  a37 := Tryd.isAgg37
  z37 := Tryd.sizeOf37
  v37 := Tryd.zeroValue37
  t46 := Tryd.underlying74
  a46 := Tryd.isAgg74
  z46 := Tryd.sizeOf74
  v46 := Tryd.zeroValue74
  t51 := Tryd.underlying87
  a51 := Tryd.isAgg87
  z51 := Tryd.sizeOf87
  v51 := Tryd.zeroValue87
  t53 := Tryd.underlying91
  a53 := Tryd.isAgg91
  z53 := Tryd.sizeOf91
  v53 := Tryd.zeroValue91
  t75 := Tryd.underlying44
  a75 := Tryd.isAgg44
  z75 := Tryd.sizeOf44
  v75 := Tryd.zeroValue44
  t76 := Tryd.underlying45
  a76 := Tryd.isAgg45
  z76 := Tryd.sizeOf45
  v76 := Tryd.zeroValue45
  t85 := Tryd.underlying97
  a85 := Tryd.isAgg97
  z85 := Tryd.sizeOf97
  v85 := Tryd.zeroValue97
  t127 := Tryd.underlying68
  a127 := Tryd.isAgg68
  z127 := Tryd.sizeOf68
  v127 := Tryd.zeroValue68
  t143 := Tryd.underlying128
  a143 := Tryd.isAgg128
  z143 := Tryd.sizeOf128
  v143 := Tryd.zeroValue128
  t145 := Tryd.underlying130
  a145 := Tryd.isAgg130
  z145 := Tryd.sizeOf130
  v145 := Tryd.zeroValue130
  t167 := Tryd.underlying96
  a167 := Tryd.isAgg96
  z167 := Tryd.sizeOf96
  v167 := Tryd.zeroValue96
  t168 := Tryd.underlying99
  a168 := Tryd.isAgg99
  z168 := Tryd.sizeOf99
  v168 := Tryd.zeroValue99
  t171 := Tryd.underlying90
  a171 := Tryd.isAgg90
  z171 := Tryd.sizeOf90
  v171 := Tryd.zeroValue90
  t173 := Tryd.underlying94
  a173 := Tryd.isAgg94
  z173 := Tryd.sizeOf94
  v173 := Tryd.zeroValue94
  t175 := Tryd.underlying119
  a175 := Tryd.isAgg119
  z175 := Tryd.sizeOf119
  v175 := Tryd.zeroValue119
  t210 := Tryd.underlying122
  a210 := Tryd.isAgg122
  z210 := Tryd.sizeOf122
  v210 := Tryd.zeroValue122
  t212 := Tryd.underlying115
  a212 := Tryd.isAgg115
  z212 := Tryd.sizeOf115
  v212 := Tryd.zeroValue115
  t213 := Tryd.underlying116
  a213 := Tryd.isAgg116
  z213 := Tryd.sizeOf116
  t232 := Tryd.underlying131
  a232 := Tryd.isAgg131
  z232 := Tryd.sizeOf131
  v232 := Tryd.zeroValue131
  t233 := Tryd.underlying132
  a233 := Tryd.isAgg132
  z233 := Tryd.sizeOf132
  v233 := Tryd.zeroValue132
  g15 := by kernel_rfl
  g16 := by kernel_rfl
  g17 := by kernel_rfl
  g18 := by kernel_rfl
  g19 := by kernel_rfl
  t80 := Tryd.underlying48
  a80 := Tryd.isAgg48
  z80 := Tryd.sizeOf48
  v80 := Tryd.zeroValue48
  i0 := by kernel_rfl
  i2 := by kernel_rfl
  i3 := by kernel_rfl
  i4 := by kernel_rfl
  i5 := by kernel_rfl
  i9 := by kernel_rfl
  i20 := by kernel_rfl
  i21 := by kernel_rfl
  i37 := by kernel_rfl
  i46 := by kernel_rfl
  i51 := by kernel_rfl
  i53 := by kernel_rfl
  i75 := by kernel_rfl
  i76 := by kernel_rfl
  i80 := by kernel_rfl
  i85 := by kernel_rfl
  i127 := by kernel_rfl
  i143 := by kernel_rfl
  i145 := by kernel_rfl
  i167 := by kernel_rfl
  i168 := by kernel_rfl
  i171 := by kernel_rfl
  i173 := by kernel_rfl
  i175 := by kernel_rfl
  i210 := by kernel_rfl
  i212 := by kernel_rfl
  i232 := by kernel_rfl
  i233 := by kernel_rfl
  m15 := by kernel_rfl
  m16 := by kernel_rfl
  m17 := by kernel_rfl
  m18 := by kernel_rfl
  m19 := by kernel_rfl
  c0 := by kernel_rfl
  c2 := by kernel_rfl
  c3 := by kernel_rfl
  c4 := by kernel_rfl
  c5 := by kernel_rfl
  c9 := by kernel_rfl
  c20 := by kernel_rfl
  c21 := by kernel_rfl
  c37 := by kernel_rfl
  c46 := by kernel_rfl
  c51 := by kernel_rfl
  c53 := by kernel_rfl
  c75 := by kernel_rfl
  c76 := by kernel_rfl
  c80 := by kernel_rfl
  c85 := by kernel_rfl
  c127 := by kernel_rfl
  c143 := by kernel_rfl
  c145 := by kernel_rfl
  c167 := by kernel_rfl
  c168 := by kernel_rfl
  c171 := by kernel_rfl
  c173 := by kernel_rfl
  c175 := by kernel_rfl
  c210 := by kernel_rfl
  c212 := by kernel_rfl
  c213 := by kernel_rfl
  c232 := by kernel_rfl
  c233 := by kernel_rfl
end Hw.L
namespace Hw.L
open Go Go.Proofs Go.Shelf Hw.M

/-! lex: the library's functions, numbers, words, symbols -/
theorem callOKL {f : FuncId} {fn : Func} (h : Tryd.prog.funcs[f]? = some fn) (h1 : (fn.name == "runtime.NumGoroutine") = false) (h2 : fn.body.isNone = false) : CallOK Tryd.prog f := ⟨fn, h, h1, h2⟩
theorem hasPrefixL_ok (s p : Str) : FnOK Tryd.prog 46 [Sr s, Sr p] [] (Bo ((lst p).isPrefixOf (lst s))) [] :=
  @fn_pureL _ _ [.string s, .string p] _ (callOKL Tryd.func46 (by kernel_rfl) (by kernel_rfl)) (fun w _ => Any.strings_HasPrefix laysPre s p w) rfl
theorem indexByte_ok (s : Str) (c : UInt8) : FnOK Tryd.prog 47 [Sr s, uc c.toNat] [] (I (Lib.indexByte (lst s) c)) [] :=
  @fn_pureL _ _ [.string s, .int .u8 c.toNat] _ (callOKL Tryd.func47 (by kernel_rfl) (by kernel_rfl)) (fun w _ => by
    have := Any.strings_IndexByte laysIdx s c.toNat w
    have e : ((c.toNat : Int).toNat).toUInt8 = c := by simp
    rw [e] at this
    exact this) rfl
theorem atoi_ok {s : Str} {v : Int} (h : Lib.atoiAll (lst s) = .ok v) (hs : s.size ≤ 1000000) : FnOK Tryd.prog 56 [Sr s] [] (.tup [I v, .one (.p (.k .nilIface))]) [] := by
  refine ⟨callOKL Tryd.func56 (by kernel_rfl) (by kernel_rfl), fun M ρ w xs hx _ hI hG => ?_⟩
  obtain rfl := reps_k (av := [.string s]) hx
  refine (Any.strconv_Atoi_ok laysAtoi s (by omega) v h w).mono fun e w' ⟨he, hw⟩ => ?_
  have hb : RowKit.Below w.heap.size w w' := by
    rcases hw with rfl | ⟨t, rfl⟩
    · exact RowKit.Below.refl _ _
    · exact Lib.bytesWorld_below w _ t
  exact ⟨_, M, ρ, he, ret_below hI hb (by simp only [RepS]; exact ⟨[.int .i64 v, .nilIface], rfl, by simp only [RepSs, RepS, RepV, RepPV]; exact ⟨⟨trivial, rfl⟩, ⟨trivial, rfl⟩, trivial⟩⟩)⟩
theorem atoi_range {s : Str} (h : Lib.atoiAll (lst s) = .range) (hs : s.size ≤ 1000000) (hn : Lib.atoiSat (lst s) = 9223372036854775807) : FnOK Tryd.prog 56 [Sr s] [] (.tup [I 9223372036854775807, .one (.ar 0)]) [(0, .ifc)] := by
  refine ⟨callOKL Tryd.func56 (by kernel_rfl) (by kernel_rfl), fun M ρ w xs hx hT hI hG => ?_⟩
  obtain rfl := reps_k (av := [.string s]) hx
  obtain ⟨te, pe, hev⟩ := hG.er 5 (by simp [G3])
  have hv := hI _ _ _ hev
  refine (Any.strconv_Atoi_range laysAtoi s (by omega) h _ w hv (.inr ⟨te, pe, rfl⟩)).mono fun e w' ⟨N, he, _, _, hb⟩ => ?_
  have hn' : Lib.atoiSat s.data.toList = 9223372036854775807 := hn
  rw [hn'] at he
  have only : ∀ i r, tg (tb [(0, Res.ifc)]) i = some r → i = 0 ∧ r = .ifc := fun i r hi => by
    simp only [tb, tg_cons] at hi
    split at hi
    · rename_i e; exact ⟨e.symm, (Option.some.inj hi).symm⟩
    · cases hi
  have nob : ∀ {i r b}, tg (tb [(0, Res.ifc)]) i = some r → Bk (upd ρ 0 (.iface (laysAtoi_ren.t 168) (.pointer (some ⟨N, 0, none⟩))) i) b → False := fun {i r b} hi hb => by
    obtain ⟨rfl, _⟩ := only i r hi
    rw [upd_same] at hb
    simp [Bk, blk] at hb
  refine ⟨_, M, upd ρ 0 (.iface (laysAtoi_ren.t 168) (.pointer (some ⟨N, 0, none⟩))), he, ?_⟩
  refine ⟨?_, ⟨fun i r hi => ?_, fun i j ri rj b hi _ _ hb _ => nob hi hb, fun i r b hi hb => (nob hi hb).elim⟩, fun b o u hu => by rw [cell_of_heap (hb.block b (cell_lt (hI b o u hu)))]; exact hI b o u hu, MLe.refl M, fun b o u hu => .inl hu,
    fun b ⟨i, r, hi, hb⟩ => (nob hi hb).elim, fun b h _ => hb.block b h, hb.size, hb.os, hb.tape, hb.output, fun id hid => by simp [RL.ids] at hid⟩
  · simp only [RepS]
    exact ⟨[.int .i64 9223372036854775807, .iface (laysAtoi_ren.t 168) (.pointer (some ⟨N, 0, none⟩))], rfl, by simp only [RepSs, RepS, RepV, RepPV]; exact ⟨⟨trivial, rfl⟩, ⟨by rw [upd_same], rfl⟩, trivial⟩⟩
  · obtain ⟨rfl, rfl⟩ := only i r hi
    exact ⟨_, _, upd_same _ _ _⟩
theorem lst_at {s : Str} {i : Nat} {b : UInt8} (h : (lst s)[i]? = some b) : s[((i : Nat) : Int).toNat]? = some b := by
  have hlt : i < s.data.size := by
    have := (List.getElem?_eq_some_iff.1 h).1
    simpa [lst] using this
  have : s.data[i] = b := by unfold lst at h; rw [Array.getElem?_toList, Array.getElem?_eq_getElem hlt] at h; exact Option.some.inj h
  have hlt' : i < s.size := hlt
  simp only [Int.toNat_natCast]
  rw [getElem?_pos s i hlt']
  exact congrArg some this
theorem class_dig (c : Int) : decide (classS c = 3) = isDigit c := by
  unfold classS isDigit
  by_cases h1 : c = 32
  · subst h1; rfl
  by_cases h2 : c = 9
  · subst h2; rfl
  by_cases h3 : c = 13
  · subst h3; rfl
  by_cases h4 : c = 10
  · subst h4; rfl
  simp only [h1, h2, h3, h4, if_false]
  by_cases h5 : (decide (97 ≤ c) && decide (c ≤ 122)) = true
  · rw [if_pos h5]
    simp only [Bool.and_eq_true, decide_eq_true_eq] at h5
    rw [decide_eq_false (show ¬ c ≤ 57 by omega)]; simp
  · rw [if_neg h5]
    by_cases h6 : (decide (65 ≤ c) && decide (c ≤ 90)) = true
    · rw [if_pos h6]
      simp only [Bool.and_eq_true, decide_eq_true_eq] at h6
      rw [decide_eq_false (show ¬ c ≤ 57 by omega)]; simp
    · rw [if_neg h6]
      by_cases h7 : (decide (48 ≤ c) && decide (c ≤ 57)) = true
      · rw [if_pos h7, h7]; rfl
      · rw [if_neg h7]
        have h7' : (decide (48 ≤ c) && decide (c ≤ 57)) = false := by simpa using h7
        rw [h7']
        by_cases h8 : c = 95
        · rw [if_pos h8]; rfl
        · rw [if_neg h8]; rfl
/-- No number begins so. -/
def numNo (w : By) : Bool := decide (w = []) || (decide (1 < w.length) && decide (w.head? = some 48))
theorem numOk_eq (w : By) : numOk w = (!numNo w && w.all dB && decide (numV w 0 ≤ 1099511627776)) := by
  unfold numOk numNo; cases decide (w = []) <;> cases (decide (1 < w.length) && decide (w.head? = some 48)) <;> simp
/-- What lex.integer hands back. -/
def intF (w : By) : Int := if (!numNo w && w.all dB) = true then intN w else 0
theorem sat_digits {w : By} (hne : w ≠ []) (hd : w.all dB = true) : Lib.atoiSat w = 9223372036854775807 := by
  cases w with
  | nil => exact absurd rfl hne
  | cons c r =>
    have hc := dB_iff.1 (by simp only [List.all_cons, Bool.and_eq_true] at hd; exact hd.1)
    exact Lib.atoiSat_other c r (by omega)
theorem integer_ok (s : Str) (hs : s.size ≤ 1000000) : FnOK Tryd.prog 45 [Sr s] [] (.tup [I (intF (lst s)), .bq (numOk (lst s))]) [] := by
  have hl := lst_len s
  have no : numNo (lst s) = true → intF (lst s) = 0 ∧ numOk (lst s) = false := fun h => by
    rw [numOk_eq]; unfold intF; rw [h]; simp
  by_cases h0 : s = ⟨#[]⟩
  · obtain ⟨e1, e2⟩ := no (by rw [h0]; rfl)
    rw [e1, e2]
    refine fn_ok T Tryd.func45 (by kernel_rfl) rfl rfl rfl rfl fun C hC => ?_
    repeat' first
      | refine g_go T hC true 400 rfl rfl ?_
      | refine g_cond rfl (fun h => ?_) (fun h => ?_)
      | refine g_end T hC (by kernel_rfl) ?_
      | refine g_splitD (fun h => ?_) (fun h => ?_)
      | refine g_splitG rfl rfl rfl (fun h => ?_) (fun h => ?_)
      | refine g_splitP rfl rfl (fun h => ?_) (fun h => ?_)
    all_goals first
      | exact g_fin ⟨.inl rfl, id, _, rfl, LeS.tup (.cons (.refl _) (.cons (.qb rfl) .nil)), trivial, rfl, rfl⟩
      | (exfalso; simp_all; done)
  have hne : lst s ≠ [] := fun e => h0 (by rw [← str_lst s, e]; rfl)
  have hpos : 0 < (lst s).length := List.length_pos_iff.2 hne
  obtain ⟨b, hb⟩ := exists_at hpos
  have hhd : (lst s).head? = some b := by rw [List.head?_eq_getElem?]; exact hb
  by_cases h1 : (decide (1 < (lst s).length) && decide ((lst s).head? = some 48)) = true
  · obtain ⟨e1, e2⟩ := no (by unfold numNo; rw [h1]; simp)
    rw [e1, e2]
    simp only [Bool.and_eq_true, decide_eq_true_eq, hhd, Option.some.injEq] at h1
    obtain ⟨h1, rfl⟩ := h1
    refine fn_ok T Tryd.func45 (by kernel_rfl) rfl rfl rfl rfl fun C hC => ?_
    repeat' first
      | refine g_go T hC true 400 rfl rfl ?_
      | refine g_cond rfl (fun h => ?_) (fun h => ?_)
      | refine g_end T hC (by kernel_rfl) ?_
      | refine g_splitD (fun h => ?_) (fun h => ?_)
      | refine g_splitG rfl rfl rfl (fun h => ?_) (fun h => ?_)
      | refine g_splitP rfl rfl (fun h => ?_) (fun h => ?_)
      | refine g_idxS T hC rfl rfl rfl (Int.le_refl _) (lst_at hb) rfl rfl ?_
    all_goals first
      | exact g_fin ⟨.inl rfl, id, _, rfl, LeS.tup (.cons (.refl _) (.cons (.qb rfl) .nil)), trivial, rfl, rfl⟩
      | (exfalso; simp_all; done)
      | (exfalso; simp only [decide_eq_true_eq, decide_eq_false_iff_not] at *; omega)
      | (exfalso; revert h; decide)
  have hnn : numNo (lst s) = false := by
    unfold numNo
    rw [decide_eq_false hne]; simpa using h1
  have hif : intF (lst s) = if (lst s).all dB = true then intN (lst s) else 0 := by unfold intF; rw [hnn]; simp
  have hok : numOk (lst s) = ((lst s).all dB && decide (numV (lst s) 0 ≤ 1099511627776)) := by rw [numOk_eq, hnn]; rfl
  have h48 : 1 < (lst s).length → b ≠ 48 := fun h e => h1 (by rw [hhd, e]; simp [h])
  rw [hif, hok]
  clear no h1 hhd
  refine fn_ok T Tryd.func45 (by kernel_rfl) rfl rfl rfl rfl fun C hC => ?_
  repeat' first
    | refine g_go T hC true 400 rfl rfl ?_
    | refine g_cond rfl (fun h => ?_) (fun h => ?_)
    | refine g_end T hC (by kernel_rfl) ?_
    | refine g_splitD (fun h => ?_) (fun h => ?_)
    | refine g_splitG rfl rfl rfl (fun h => ?_) (fun h => ?_)
    | refine g_splitP rfl rfl (fun h => ?_) (fun h => ?_)
    | refine g_idxS T hC rfl rfl rfl (Int.le_refl _) (lst_at hb) rfl rfl ?_
  all_goals first
    | (exfalso; simp_all; done)
    | (exfalso; simp only [decide_eq_true_eq, decide_eq_false_iff_not] at *; refine h48 (by omega) ?_; apply UInt8.toNat_inj.1; have h48' : (48 : UInt8).toNat = 48 := rfl; omega)
    | skip
  all_goals
    refine g_loop (fun i : Nat => i ≤ s.size ∧ ((lst s).take i).all dB = true) (fun i => ([(0, Sr s), (20, I s.size), (21, I i)], [])) (fun i => s.size - i) hC
      0 ⟨Nat.zero_le _, by simp⟩ id ⟨rfl, ⟨rfl, rfl, rfl, trivial⟩, trivial, rfl, fun _ _ => rfl⟩ ?_
    rintro i ⟨hi, hn⟩
    refine g_run' T hC true 200 rfl ?_
    refine g_cond rfl (fun hh => ?_) (fun hh => ?_)
    · have hlt : i < (lst s).length := by have := of_decide_eq_true hh; omega
      clear hh
      obtain ⟨x, hx⟩ := exists_at hlt
      repeat' first
        | refine g_go T hC true 400 rfl rfl ?_
        | refine g_cond rfl (fun h => ?_) (fun h => ?_)
        | refine g_end T hC (by kernel_rfl) ?_
        | refine g_splitD (fun h => ?_) (fun h => ?_)
        | refine g_splitG rfl rfl rfl (fun h => ?_) (fun h => ?_)
        | refine g_splitP rfl rfl (fun h => ?_) (fun h => ?_)
        | refine g_idxS T hC rfl rfl rfl (Int.natCast_nonneg _) (lst_at hx) rfl rfl ?_
        | refine g_call hC (class_ok _) rfl rfl (LeSs.refl _) rfl rfl rfl ?_
        | refine g_outR ?_
      all_goals first
        | (have hd : dB x = false := by unfold dB; rw [← class_dig]; simpa using h
           rw [all_no hx hd]
           exact g_fin ⟨.inl rfl, id, _, rfl, LeS.tup (.cons (.refl _) (.cons (.qb rfl) .nil)), trivial, rfl, rfl⟩)
        | (have hd : dB x = true := by unfold dB; rw [← class_dig]; simpa using h
           rw [wrapS (by omega)]
           refine g_round (i + 1) ⟨by omega, ?_⟩ id (by omega) ⟨rfl, ⟨rfl, rfl, rfl, trivial⟩, trivial, rfl, fun _ _ => rfl⟩
           rw [all_take hx, hn, hd]; rfl)
    · have hge : ¬ i < (lst s).length := by have := of_decide_eq_false hh; omega
      have hall := all_end (p := dB) (by omega) hn
      clear hh
      rw [hall, Bool.true_and]
      have ha := atoi_digits hne hall
      have hsat := sat_digits hne hall
      by_cases hv : numV (lst s) 0 ≤ 9223372036854775807
      · rw [if_pos hv] at ha
        have hA := atoi_ok ha hs
        have hi' : intN (lst s) = numV (lst s) 0 := by unfold intN; rw [if_pos hv]
        rw [hi', if_pos rfl]
        repeat' first
          | refine g_go T hC true 400 rfl rfl ?_
          | refine g_cond rfl (fun h => ?_) (fun h => ?_)
          | refine g_end T hC (by kernel_rfl) ?_
          | refine g_splitD (fun h => ?_) (fun h => ?_)
          | refine g_splitG rfl rfl rfl (fun h => ?_) (fun h => ?_)
          | refine g_splitP rfl rfl (fun h => ?_) (fun h => ?_)
          | refine g_outE ?_
          | refine g_call hC (hA) rfl rfl (LeSs.refl _) rfl rfl rfl ?_
          | refine g_ifnE hC rfl (by kernel_rfl) rfl rfl ?_
        all_goals first
          | exact g_fin ⟨.inl rfl, id, _, rfl, LeS.tup (.cons (.refl _) (.cons (.qq rfl) .nil)), trivial, rfl, rfl⟩
          | (exfalso; simp_all; done)
      · rw [if_neg hv] at ha
        have hA := atoi_range ha hs hsat
        have hi' : intN (lst s) = 9223372036854775807 := by unfold intN; rw [if_neg hv]
        rw [hi', decide_eq_false (show ¬ numV (lst s) 0 ≤ 1099511627776 by omega), if_pos rfl]
        repeat' first
          | refine g_go T hC true 400 rfl rfl ?_
          | refine g_cond rfl (fun h => ?_) (fun h => ?_)
          | refine g_end T hC (by kernel_rfl) ?_
          | refine g_splitD (fun h => ?_) (fun h => ?_)
          | refine g_splitG rfl rfl rfl (fun h => ?_) (fun h => ?_)
          | refine g_splitP rfl rfl (fun h => ?_) (fun h => ?_)
          | refine g_outE ?_
          | (refine g_callR hC hA (nm [140]) rfl rfl (LeSs.refl _) rfl rfl rfl rfl rfl rfl rfl rfl ?_)
          | refine g_ifcE hC rfl rfl (by kernel_rfl) rfl rfl ?_
        all_goals first
          | exact g_fin ⟨.inl rfl, id, _, rfl, LeS.tup (.cons (.refl _) (.cons (.qb rfl) .nil)), trivial, rfl, rfl⟩
          | (exfalso; simp_all; done)

theorem lst_extract (s : Str) (i j : Nat) : lst (s.extract i j) = ((lst s).drop i).take (j - i) := by
  simp only [lst, ByteArray.data_extract, Array.toList_extract, List.extract_eq_take_drop]
theorem extract_str (s : Str) (i j : Nat) : s.extract i j = strOf (((lst s).drop i).take (j - i)) := by rw [← lst_extract, str_lst]

/-! symbols -/
theorem symL_char {c : UInt8} {r : By} (h : ∀ y ∈ [(⟨#[61, 61]⟩ : ByteArray), (⟨#[33, 61]⟩ : ByteArray), (⟨#[60, 61]⟩ : ByteArray), (⟨#[45, 62]⟩ : ByteArray)], (lst y).isPrefixOf (c :: r) = false) : symL (c :: r) = if 0 ≤ Lib.indexByte (lst (⟨#[40, 41, 123, 125, 91, 93, 44, 59, 58, 46, 61, 60, 43, 45, 42, 47, 37]⟩ : Str)) c then some (strOf [c]) else none := by
  have key : ∀ i : Fin 256, (([(⟨#[40]⟩ : ByteArray), (⟨#[41]⟩ : ByteArray), ⟨#[123]⟩, ⟨#[125]⟩, (⟨#[91]⟩ : ByteArray), (⟨#[93]⟩ : ByteArray), (⟨#[44]⟩ : ByteArray), (⟨#[59]⟩ : ByteArray), (⟨#[58]⟩ : ByteArray), (⟨#[46]⟩ : ByteArray), (⟨#[61]⟩ : ByteArray), (⟨#[60]⟩ : ByteArray), (⟨#[43]⟩ : ByteArray), (⟨#[45]⟩ : ByteArray), (⟨#[42]⟩ : ByteArray), (⟨#[47]⟩ : ByteArray), (⟨#[37]⟩ : ByteArray)] : List Str).find? fun y => (lst y).isPrefixOf [UInt8.ofNat i.val]) =
      if 0 ≤ Lib.indexByte (lst (⟨#[40, 41, 123, 125, 91, 93, 44, 59, 58, 46, 61, 60, 43, 45, 42, 47, 37]⟩ : Str)) (UInt8.ofNat i.val) then some (strOf [UInt8.ofNat i.val]) else none := by decide +kernel
  have hci : UInt8.ofNat c.toNat = c := by simp
  have hk := key ⟨c.toNat, c.toNat_lt⟩
  simp only [hci] at hk
  rw [← hk]
  have e : syms = [(⟨#[61, 61]⟩ : ByteArray), (⟨#[33, 61]⟩ : ByteArray), (⟨#[60, 61]⟩ : ByteArray), (⟨#[45, 62]⟩ : ByteArray)] ++ [(⟨#[40]⟩ : ByteArray), (⟨#[41]⟩ : ByteArray), ⟨#[123]⟩, ⟨#[125]⟩, (⟨#[91]⟩ : ByteArray), (⟨#[93]⟩ : ByteArray), (⟨#[44]⟩ : ByteArray), (⟨#[59]⟩ : ByteArray), (⟨#[58]⟩ : ByteArray), (⟨#[46]⟩ : ByteArray), (⟨#[61]⟩ : ByteArray), (⟨#[60]⟩ : ByteArray), (⟨#[43]⟩ : ByteArray), (⟨#[45]⟩ : ByteArray), (⟨#[42]⟩ : ByteArray), (⟨#[47]⟩ : ByteArray), (⟨#[37]⟩ : ByteArray)] := rfl
  unfold symL
  rw [e, List.find?_append]
  have hn : ([(⟨#[61, 61]⟩ : ByteArray), (⟨#[33, 61]⟩ : ByteArray), (⟨#[60, 61]⟩ : ByteArray), (⟨#[45, 62]⟩ : ByteArray)] : List Str).find? (fun y => (lst y).isPrefixOf (c :: r)) = none := by
    rw [List.find?_eq_none]
    intro y hy
    rw [h y hy]; simp
  rw [hn, Option.none_or]
  have one : ∀ y ∈ ([(⟨#[40]⟩ : ByteArray), (⟨#[41]⟩ : ByteArray), ⟨#[123]⟩, ⟨#[125]⟩, (⟨#[91]⟩ : ByteArray), (⟨#[93]⟩ : ByteArray), (⟨#[44]⟩ : ByteArray), (⟨#[59]⟩ : ByteArray), (⟨#[58]⟩ : ByteArray), (⟨#[46]⟩ : ByteArray), (⟨#[61]⟩ : ByteArray), (⟨#[60]⟩ : ByteArray), (⟨#[43]⟩ : ByteArray), (⟨#[45]⟩ : ByteArray), (⟨#[42]⟩ : ByteArray), (⟨#[47]⟩ : ByteArray), (⟨#[37]⟩ : ByteArray)] : List Str), (lst y).length = 1 := by decide +kernel
  have : ∀ l : List Str, (∀ y ∈ l, (lst y).length = 1) → l.find? (fun y => (lst y).isPrefixOf (c :: r)) = l.find? (fun y => (lst y).isPrefixOf [c]) := fun l => by
    induction l with
    | nil => intro _; rfl
    | cons y l ih =>
      intro hl
      have hy := hl y (by simp)
      have e2 : (lst y).isPrefixOf (c :: r) = (lst y).isPrefixOf [c] := by
        match lst y, hy with
        | [u], _ => rfl
        | [], hy => simp at hy
        | _ :: _ :: _, hy => simp at hy
      rw [List.find?_cons, List.find?_cons, e2, ih fun z hz => hl z (by simp [hz])]
  exact this _ one
theorem symL_nil : symL [] = none := by decide +kernel
theorem symbol_ok (s : Str) : FnOK Tryd.prog 27 [Sr s] [] (Sr ((symL (lst s)).getD (⟨#[]⟩ : ByteArray))) [] := by
  have hl := lst_len s
  have hP := fun y : Str => hasPrefixL_ok s y
  refine fn_ok T Tryd.func27 (by kernel_rfl) rfl rfl rfl rfl fun C hC => ?_
  repeat' first
    | refine g_go T hC true 400 rfl rfl ?_
    | refine g_cond rfl (fun h => ?_) (fun h => ?_)
    | refine g_end T hC (by kernel_rfl) ?_
    | refine g_splitD (fun h => ?_) (fun h => ?_)
    | refine g_splitG rfl rfl rfl (fun h => ?_) (fun h => ?_)
    | refine g_splitP rfl rfl (fun h => ?_) (fun h => ?_)
    | (refine g_buildA (vs := [.p (ks (⟨#[61, 61]⟩ : ByteArray)), .p (ks (⟨#[33, 61]⟩ : ByteArray)), .p (ks (⟨#[60, 61]⟩ : ByteArray)), .p (ks (⟨#[45, 62]⟩ : ByteArray))]) (len := 4) (e := 1) (el := 9) (zs := List.replicate 4 (.p (ks (⟨#[]⟩ : ByteArray)))) hC rfl (by kernel_rfl) (by kernel_rfl) (by kernel_rfl) rfl (by kernel_rfl) rfl rfl ?_)
  refine g_loop (fun i : Nat => i ≤ 4 ∧ ∀ y ∈ ([(⟨#[61, 61]⟩ : ByteArray), (⟨#[33, 61]⟩ : ByteArray), (⟨#[60, 61]⟩ : ByteArray), (⟨#[45, 62]⟩ : ByteArray)] : List Str).take i, (lst y).isPrefixOf (lst s) = false) (fun i => ([(0, Sr s), (5, .agg [.p (ks (⟨#[61, 61]⟩ : ByteArray)), .p (ks (⟨#[33, 61]⟩ : ByteArray)), .p (ks (⟨#[60, 61]⟩ : ByteArray)), .p (ks (⟨#[45, 62]⟩ : ByteArray))]), (6, I i)], [])) (fun i => 4 - i) hC
    0 ⟨Nat.zero_le _, by simp⟩ id ⟨rfl, ⟨rfl, rfl, rfl, trivial⟩, trivial, rfl, fun _ _ => rfl⟩ ?_
  rintro i ⟨hi, hn⟩
  refine g_run' T hC true 200 rfl ?_
  refine g_cond rfl (fun hh => ?_) (fun hh => ?_)
  · have hlt : i < 4 := by have := of_decide_eq_true hh; omega
    clear hh
    obtain ⟨y, hy⟩ := exists_at (l := ([(⟨#[61, 61]⟩ : ByteArray), (⟨#[33, 61]⟩ : ByteArray), (⟨#[60, 61]⟩ : ByteArray), (⟨#[45, 62]⟩ : ByteArray)] : List Str)) (i := i) (by simpa using hlt)
    have hyv : ([.p (ks (⟨#[61, 61]⟩ : ByteArray)), .p (ks (⟨#[33, 61]⟩ : ByteArray)), .p (ks (⟨#[60, 61]⟩ : ByteArray)), .p (ks (⟨#[45, 62]⟩ : ByteArray))] : List V)[((i : Nat) : Int).toNat]? = some (.p (ks y)) := by
      have : ([.p (ks (⟨#[61, 61]⟩ : ByteArray)), .p (ks (⟨#[33, 61]⟩ : ByteArray)), .p (ks (⟨#[60, 61]⟩ : ByteArray)), .p (ks (⟨#[45, 62]⟩ : ByteArray))] : List V) = ([(⟨#[61, 61]⟩ : ByteArray), (⟨#[33, 61]⟩ : ByteArray), (⟨#[60, 61]⟩ : ByteArray), (⟨#[45, 62]⟩ : ByteArray)] : List Str).map fun y => V.p (ks y) := rfl
      rw [this, List.getElem?_map, Int.toNat_natCast, hy]; rfl
    have hPy := hP y
    cases hp : (lst y).isPrefixOf (lst s) with
    | true =>
      rw [hp] at hPy
      have hsy : symL (lst s) = some y := by
        unfold symL
        have e : syms = ([(⟨#[61, 61]⟩ : ByteArray), (⟨#[33, 61]⟩ : ByteArray), (⟨#[60, 61]⟩ : ByteArray), (⟨#[45, 62]⟩ : ByteArray)] : List Str) ++ [(⟨#[40]⟩ : ByteArray), (⟨#[41]⟩ : ByteArray), ⟨#[123]⟩, ⟨#[125]⟩, (⟨#[91]⟩ : ByteArray), (⟨#[93]⟩ : ByteArray), (⟨#[44]⟩ : ByteArray), (⟨#[59]⟩ : ByteArray), (⟨#[58]⟩ : ByteArray), (⟨#[46]⟩ : ByteArray), (⟨#[61]⟩ : ByteArray), (⟨#[60]⟩ : ByteArray), (⟨#[43]⟩ : ByteArray), (⟨#[45]⟩ : ByteArray), (⟨#[42]⟩ : ByteArray), (⟨#[47]⟩ : ByteArray), (⟨#[37]⟩ : ByteArray)] := rfl
        rw [e, List.find?_append]
        have : ([(⟨#[61, 61]⟩ : ByteArray), (⟨#[33, 61]⟩ : ByteArray), (⟨#[60, 61]⟩ : ByteArray), (⟨#[45, 62]⟩ : ByteArray)] : List Str).find? (fun y => (lst y).isPrefixOf (lst s)) = some y := by
          rw [List.find?_eq_some_iff_getElem]
          refine ⟨hp, i, by simpa using hlt, ?_, fun j hj => ?_⟩
          · have := (List.getElem?_eq_some_iff.1 hy).2; exact this
          · have := hn (([(⟨#[61, 61]⟩ : ByteArray), (⟨#[33, 61]⟩ : ByteArray), (⟨#[60, 61]⟩ : ByteArray), (⟨#[45, 62]⟩ : ByteArray)] : List Str)[j]'(by simp; omega)) (List.mem_take_iff_getElem.2 ⟨j, by simp; omega, rfl⟩)
            rw [this]; rfl
        rw [this]; rfl
      rw [hsy]
      repeat' first
        | refine g_go T hC true 400 rfl rfl ?_
        | refine g_cond rfl (fun h => ?_) (fun h => ?_)
        | refine g_end T hC (by kernel_rfl) ?_
        | refine g_splitD (fun h => ?_) (fun h => ?_)
        | refine g_splitG rfl rfl rfl (fun h => ?_) (fun h => ?_)
        | refine g_splitP rfl rfl (fun h => ?_) (fun h => ?_)
        | (refine g_index1 (len := 4) (el := 9) hC rfl rfl (by kernel_rfl) (by kernel_rfl) (by kernel_rfl) (Int.natCast_nonneg _) (by omega) hyv rfl rfl ?_)
        | refine g_call hC (hPy) rfl rfl (LeSs.refl _) rfl rfl rfl ?_
        | refine g_outR ?_
      exact g_fin ⟨.inl rfl, id, _, rfl, .refl _, trivial, rfl, rfl⟩
    | false =>
      rw [hp] at hPy
      repeat' first
        | refine g_go T hC true 400 rfl rfl ?_
        | refine g_cond rfl (fun h => ?_) (fun h => ?_)
        | refine g_end T hC (by kernel_rfl) ?_
        | refine g_splitD (fun h => ?_) (fun h => ?_)
        | refine g_splitG rfl rfl rfl (fun h => ?_) (fun h => ?_)
        | refine g_splitP rfl rfl (fun h => ?_) (fun h => ?_)
        | (refine g_index1 (len := 4) (el := 9) hC rfl rfl (by kernel_rfl) (by kernel_rfl) (by kernel_rfl) (Int.natCast_nonneg _) (by omega) hyv rfl rfl ?_)
        | refine g_call hC (hPy) rfl rfl (LeSs.refl _) rfl rfl rfl ?_
      rw [wrapS (by omega)]
      refine g_round (i + 1) ⟨by omega, fun z hz => ?_⟩ id (by omega) ⟨rfl, ⟨rfl, rfl, rfl, trivial⟩, trivial, rfl, fun _ _ => rfl⟩
      rw [List.take_add_one, hy] at hz
      rcases List.mem_append.1 hz with hz | hz
      · exact hn z hz
      · simp only [Option.toList_some, List.mem_singleton] at hz; subst hz; exact hp
  · have hge : i = 4 := by have := of_decide_eq_false hh; omega
    subst hge
    clear hh
    have hn4 : ∀ y ∈ ([(⟨#[61, 61]⟩ : ByteArray), (⟨#[33, 61]⟩ : ByteArray), (⟨#[60, 61]⟩ : ByteArray), (⟨#[45, 62]⟩ : ByteArray)] : List Str), (lst y).isPrefixOf (lst s) = false := fun y hy => hn y (by simpa using hy)
    match hls : lst s with
    | [] =>
      have h0 : s = ⟨#[]⟩ := by rw [← str_lst s, hls]; rfl
      subst h0
      rw [symL_nil]
      repeat' first
        | refine g_go T hC true 400 rfl rfl ?_
        | refine g_cond rfl (fun h => ?_) (fun h => ?_)
        | refine g_end T hC (by kernel_rfl) ?_
        | refine g_splitD (fun h => ?_) (fun h => ?_)
        | refine g_splitG rfl rfl rfl (fun h => ?_) (fun h => ?_)
        | refine g_splitP rfl rfl (fun h => ?_) (fun h => ?_)
        | refine g_outE ?_
      all_goals first
        | exact g_fin ⟨.inl rfl, id, _, rfl, .refl _, trivial, rfl, rfl⟩
        | (exfalso; simp_all; done)
    | c :: r =>
      rw [hls] at hn4 hl
      have hsz : 1 ≤ s.size := by simp only [List.length_cons] at hl; omega
      have hc0 : (lst s)[0]? = some c := by rw [hls]; rfl
      have hI := indexByte_ok ⟨#[40, 41, 123, 125, 91, 93, 44, 59, 58, 46, 61, 60, 43, 45, 42, 47, 37]⟩ c
      have hne : s ≠ ⟨#[]⟩ := fun e => by subst e; simp [lst] at hls
      rw [symL_char hn4]
      generalize Lib.indexByte (lst (⟨#[40, 41, 123, 125, 91, 93, 44, 59, 58, 46, 61, 60, 43, 45, 42, 47, 37]⟩ : Str)) c = q at hI
      have hx : s.extract 0 (1 : Int).toNat = strOf [c] := by
        rw [extract_str, hls]; rfl
      repeat' first
        | refine g_go T hC true 400 rfl rfl ?_
        | refine g_cond rfl (fun h => ?_) (fun h => ?_)
        | refine g_end T hC (by kernel_rfl) ?_
        | refine g_splitD (fun h => ?_) (fun h => ?_)
        | refine g_splitG rfl rfl rfl (fun h => ?_) (fun h => ?_)
        | refine g_splitP rfl rfl (fun h => ?_) (fun h => ?_)
        | refine g_outE ?_
        | refine g_idxS T hC rfl rfl rfl (Int.le_refl _) (lst_at hc0) rfl rfl ?_
        | refine g_call hC (hI) rfl rfl (LeSs.refl _) rfl rfl rfl ?_
        | (refine g_slTo hC rfl rfl (by kernel_rfl) (by decide) (by omega) rfl rfl ?_)
      all_goals first
        | (rw [if_pos (by simpa using h), hx]
           exact g_fin ⟨.inl rfl, id, _, rfl, .refl _, trivial, rfl, rfl⟩)
        | (rw [if_neg (by simpa using h)]
           exact g_fin ⟨.inl rfl, id, _, rfl, .refl _, trivial, rfl, rfl⟩)
        | (exfalso; simp_all; done)

/-! words -/
def tokC (k : Int) (t : Str) (n ln cl : Int) : List PV := [ki k, ks t, ki n, ki ln, ki cl]
theorem lexWord_ok (s : Str) (hs : s.size ≤ 1000000) : (∀ t, clsT (lst s) = some t → FnOK Tryd.prog 26 [Sr s] [] (.tup [aggS (tokC t.1 t.2.1 t.2.2 0 0), Bo true]) []) ∧ (clsT (lst s) = none → FnOK Tryd.prog 26 [Sr s] [] (.tup [aggS (tokC 2 (⟨#[]⟩ : ByteArray) (intF (lst s)) 0 0), Bo false]) []) := by
  have hK := lexKeyword_ok s
  have hN := lexName_ok s
  have hI := integer_ok s hs
  have hif : numOk (lst s) = true → intF (lst s) = numV (lst s) 0 := fun h => by
    rw [numOk_eq] at h
    simp only [Bool.and_eq_true, decide_eq_true_eq] at h
    unfold intF intN
    rw [if_pos (by simp [h.1.1, h.1.2]), if_pos (by omega)]
  unfold clsT
  rw [str_lst]
  cases hk : isKeyword s with
  | true =>
    rw [hk] at hK
    refine ⟨fun t ht => ?_, fun h => by simp at h⟩
    rw [if_pos rfl] at ht
    obtain rfl := Option.some.inj ht
    refine fn_ok T Tryd.func26 (by kernel_rfl) rfl rfl rfl rfl fun C hC => ?_
    repeat' first
      | refine g_go T hC true 400 rfl rfl ?_
      | refine g_cond rfl (fun h => ?_) (fun h => ?_)
      | refine g_end T hC (by kernel_rfl) ?_
      | refine g_splitD (fun h => ?_) (fun h => ?_)
      | refine g_splitG rfl rfl rfl (fun h => ?_) (fun h => ?_)
      | refine g_splitP rfl rfl (fun h => ?_) (fun h => ?_)
      | refine g_call hC (hK) rfl rfl (LeSs.refl _) rfl rfl rfl ?_
    all_goals first
      | exact g_fin ⟨.inl rfl, id, _, rfl, .refl _, trivial, rfl, rfl⟩
      | (exfalso; simp_all; done)
  | false =>
  rw [hk] at hK
  cases hn : isName s with
  | true =>
    rw [hn] at hN
    refine ⟨fun t ht => ?_, fun h => by simp at h⟩
    simp only [Bool.false_eq_true, if_false, if_true] at ht
    obtain rfl := Option.some.inj ht
    refine fn_ok T Tryd.func26 (by kernel_rfl) rfl rfl rfl rfl fun C hC => ?_
    repeat' first
      | refine g_go T hC true 400 rfl rfl ?_
      | refine g_cond rfl (fun h => ?_) (fun h => ?_)
      | refine g_end T hC (by kernel_rfl) ?_
      | refine g_splitD (fun h => ?_) (fun h => ?_)
      | refine g_splitG rfl rfl rfl (fun h => ?_) (fun h => ?_)
      | refine g_splitP rfl rfl (fun h => ?_) (fun h => ?_)
      | refine g_call hC (hK) rfl rfl (LeSs.refl _) rfl rfl rfl ?_
      | refine g_call hC (hN) rfl rfl (LeSs.refl _) rfl rfl rfl ?_
    all_goals first
      | exact g_fin ⟨.inl rfl, id, _, rfl, .refl _, trivial, rfl, rfl⟩
      | (exfalso; simp_all; done)
  | false =>
  rw [hn] at hN
  cases ho : numOk (lst s) with
  | true =>
    rw [ho, hif ho] at hI
    refine ⟨fun t ht => ?_, fun h => by simp at h⟩
    simp only [Bool.false_eq_true, if_false, if_true] at ht
    obtain rfl := Option.some.inj ht
    refine fn_ok T Tryd.func26 (by kernel_rfl) rfl rfl rfl rfl fun C hC => ?_
    repeat' first
      | refine g_go T hC true 400 rfl rfl ?_
      | refine g_cond rfl (fun h => ?_) (fun h => ?_)
      | refine g_end T hC (by kernel_rfl) ?_
      | refine g_splitD (fun h => ?_) (fun h => ?_)
      | refine g_splitG rfl rfl rfl (fun h => ?_) (fun h => ?_)
      | refine g_splitP rfl rfl (fun h => ?_) (fun h => ?_)
      | refine g_call hC (hK) rfl rfl (LeSs.refl _) rfl rfl rfl ?_
      | refine g_call hC (hN) rfl rfl (LeSs.refl _) rfl rfl rfl ?_
      | refine g_call hC (hI) rfl rfl (LeSs.refl _) rfl rfl rfl ?_
    all_goals first
      | exact g_fin ⟨.inl rfl, id, _, rfl, LeS.tup (.cons (.refl _) (.cons (.bq rfl) .nil)), trivial, rfl, rfl⟩
      | exact g_fin ⟨.inl rfl, id, _, rfl, .refl _, trivial, rfl, rfl⟩
      | (exfalso; simp_all; done)
  | false =>
    rw [ho] at hI
    refine ⟨fun t ht => by simp at ht, fun _ => ?_⟩
    refine fn_ok T Tryd.func26 (by kernel_rfl) rfl rfl rfl rfl fun C hC => ?_
    repeat' first
      | refine g_go T hC true 400 rfl rfl ?_
      | refine g_cond rfl (fun h => ?_) (fun h => ?_)
      | refine g_end T hC (by kernel_rfl) ?_
      | refine g_splitD (fun h => ?_) (fun h => ?_)
      | refine g_splitG rfl rfl rfl (fun h => ?_) (fun h => ?_)
      | refine g_splitP rfl rfl (fun h => ?_) (fun h => ?_)
      | refine g_call hC (hK) rfl rfl (LeSs.refl _) rfl rfl rfl ?_
      | refine g_call hC (hN) rfl rfl (LeSs.refl _) rfl rfl rfl ?_
      | refine g_call hC (hI) rfl rfl (LeSs.refl _) rfl rfl rfl ?_
    all_goals first
      | exact g_fin ⟨.inl rfl, id, _, rfl, LeS.tup (.cons (.refl _) (.cons (.bq rfl) .nil)), trivial, rfl, rfl⟩
      | exact g_fin ⟨.inl rfl, id, _, rfl, .refl _, trivial, rfl, rfl⟩
      | (exfalso; simp_all; done)
end Hw.L
namespace Hw.L
open Go Go.Proofs Go.Shelf Hw.M

/-! lex: the reference's numbers, words, symbols, moves -/
theorem numV_append : ∀ (a b : By) (n : Int), numV (a ++ b) n = numV b (numV a n)
  | [], _, _ => rfl
  | x :: a, b, n => by simp only [List.cons_append, numV]; exact numV_append a b _
theorem numV_snoc {w : By} {i : Nat} {x : UInt8} (h : w[i]? = some x) : numV (w.take (i + 1)) 0 = numV (w.take i) 0 * 10 + ((x.toNat : Int) - 48) := by
  rw [List.take_add_one, h, Option.toList_some, numV_append]; rfl
theorem numV_ge {w : By} (h : w.all dB = true) : 0 ≤ numV w 0 := by
  have := numV_nat w 0 h
  have e0 : ((0 : Nat) : Int) = 0 := rfl
  rw [e0] at this; omega
theorem numV_take_le {w : By} (h : w.all dB = true) (k : Nat) : numV (w.take k) 0 ≤ numV w 0 := by
  have h1 := numV_nat w 0 h
  have ht : (w.take k).all dB = true := by rw [List.all_eq_true] at h ⊢; exact fun x hx => h x (List.mem_of_mem_take hx)
  have h2 := numV_nat (w.take k) 0 ht
  have h3 := natV_take w k 0
  have e0 : ((0 : Nat) : Int) = 0 := rfl
  rw [e0] at h1 h2; omega
def numR (w : By) : Int := if numOk w = true then numV w 0 else 0
theorem rNumber_ok (s : Str) (hs : s.size ≤ 1000000) : FnOK Tryd.prog 49 [Sr s] [] (.tup [I (numR (lst s)), .bq (numOk (lst s))]) [] := by
  have hl := lst_len s
  have no : numOk (lst s) = false → numR (lst s) = 0 := fun h => by unfold numR; rw [h]; simp
  by_cases h0 : s = ⟨#[]⟩
  · have hn : numOk (lst s) = false := by rw [h0]; rfl
    rw [no hn, hn]
    subst h0
    refine fn_ok T Tryd.func49 (by kernel_rfl) rfl rfl rfl rfl fun C hC => ?_
    repeat' first
      | refine g_go T hC true 400 rfl rfl ?_
      | refine g_cond rfl (fun h => ?_) (fun h => ?_)
      | refine g_end T hC (by kernel_rfl) ?_
      | refine g_splitD (fun h => ?_) (fun h => ?_)
      | refine g_splitG rfl rfl rfl (fun h => ?_) (fun h => ?_)
      | refine g_splitP rfl rfl (fun h => ?_) (fun h => ?_)
    all_goals first
      | exact g_fin ⟨.inl rfl, id, _, rfl, LeS.tup (.cons (.refl _) (.cons (.qb rfl) .nil)), trivial, rfl, rfl⟩
      | (exfalso; simp at h; done)
      | (exfalso; rename_i hf; revert hf; decide)
      | (exfalso; rename_i hf _; revert hf; decide)
      | (exfalso; revert h; decide)
      | (exfalso; simp_all; done)
  have hne : lst s ≠ [] := fun e => h0 (by rw [← str_lst s, e]; rfl)
  have hpos : 0 < (lst s).length := List.length_pos_iff.2 hne
  obtain ⟨b, hb⟩ := exists_at hpos
  have hhd : (lst s).head? = some b := by rw [List.head?_eq_getElem?]; exact hb
  by_cases h1 : (decide (1 < (lst s).length) && decide ((lst s).head? = some 48)) = true
  · have hn : numOk (lst s) = false := by unfold numOk; rw [h1]; simp
    rw [no hn, hn]
    simp only [Bool.and_eq_true, decide_eq_true_eq, hhd, Option.some.injEq] at h1
    obtain ⟨h1, rfl⟩ := h1
    refine fn_ok T Tryd.func49 (by kernel_rfl) rfl rfl rfl rfl fun C hC => ?_
    repeat' first
      | refine g_go T hC true 400 rfl rfl ?_
      | refine g_cond rfl (fun h => ?_) (fun h => ?_)
      | refine g_end T hC (by kernel_rfl) ?_
      | refine g_splitD (fun h => ?_) (fun h => ?_)
      | refine g_splitG rfl rfl rfl (fun h => ?_) (fun h => ?_)
      | refine g_splitP rfl rfl (fun h => ?_) (fun h => ?_)
      | refine g_idxS T hC rfl rfl rfl (Int.le_refl _) (lst_at hb) rfl rfl ?_
    all_goals first
      | exact g_fin ⟨.inl rfl, id, _, rfl, LeS.tup (.cons (.refl _) (.cons (.qb rfl) .nil)), trivial, rfl, rfl⟩
      | (exfalso; simp only [decide_eq_true_eq, decide_eq_false_iff_not] at *; omega)
      | (exfalso; revert h; decide)
      | (exfalso; simp_all; done)
  have hok : numOk (lst s) = ((lst s).all dB && decide (numV (lst s) 0 ≤ 1099511627776)) := by
    unfold numOk
    rw [decide_eq_false hne]
    have : (decide (1 < (lst s).length) && decide ((lst s).head? = some 48)) = false := by simpa using h1
    rw [this]; rfl
  have h48 : 1 < (lst s).length → b ≠ 48 := fun h e => h1 (by rw [hhd, e]; simp [h])
  clear h1 hhd
  refine fn_ok T Tryd.func49 (by kernel_rfl) rfl rfl rfl rfl fun C hC => ?_
  repeat' first
    | refine g_go T hC true 400 rfl rfl ?_
    | refine g_cond rfl (fun h => ?_) (fun h => ?_)
    | refine g_end T hC (by kernel_rfl) ?_
    | refine g_splitD (fun h => ?_) (fun h => ?_)
    | refine g_splitG rfl rfl rfl (fun h => ?_) (fun h => ?_)
    | refine g_splitP rfl rfl (fun h => ?_) (fun h => ?_)
    | refine g_idxS T hC rfl rfl rfl (Int.le_refl _) (lst_at hb) rfl rfl ?_
  all_goals first
    | (exfalso; simp only [decide_eq_true_eq, decide_eq_false_iff_not] at *; omega)
    | (exfalso; simp only [decide_eq_true_eq, decide_eq_false_iff_not] at *; refine h48 (by omega) ?_; apply UInt8.toNat_inj.1; have h48' : (48 : UInt8).toNat = 48 := rfl; omega)
    | skip
  all_goals
    refine g_loop (fun i : Nat => i ≤ s.size ∧ ((lst s).take i).all dB = true ∧ numV ((lst s).take i) 0 ≤ 1099511627776) (fun i => ([(0, Sr s), (4, I (numV ((lst s).take i) 0)), (5, I i)], [])) (fun i => s.size - i) hC
      0 ⟨Nat.zero_le _, by simp, by simp [numV]⟩ id ⟨rfl, ⟨rfl, rfl, rfl, trivial⟩, trivial, rfl, fun _ _ => rfl⟩ ?_
    rintro i ⟨hi, hn, hm⟩
    refine g_run' T hC true 200 rfl ?_
    refine g_cond rfl (fun hh => ?_) (fun hh => ?_)
    · have hlt : i < (lst s).length := by have := of_decide_eq_true hh; omega
      clear hh
      obtain ⟨x, hx⟩ := exists_at hlt
      have hsn := numV_snoc hx
      have hge := numV_ge hn
      cases hd : dB x with
      | false =>
        have hD := digit_ok (x.toNat : Int)
        rw [show isDigit (x.toNat : Int) = false from hd] at hD
        have hnn : numOk (lst s) = false := by rw [hok, all_no hx hd]; rfl
        rw [no hnn, hnn]
        repeat' first
          | refine g_go T hC true 400 rfl rfl ?_
          | refine g_cond rfl (fun h => ?_) (fun h => ?_)
          | refine g_end T hC (by kernel_rfl) ?_
          | refine g_splitD (fun h => ?_) (fun h => ?_)
          | refine g_splitG rfl rfl rfl (fun h => ?_) (fun h => ?_)
          | refine g_splitP rfl rfl (fun h => ?_) (fun h => ?_)
          | refine g_idxS T hC rfl rfl rfl (Int.natCast_nonneg _) (lst_at hx) rfl rfl ?_
          | refine g_call hC (hD) rfl rfl (LeSs.refl _) rfl rfl rfl ?_
          | refine g_outR ?_
        all_goals first
          | exact g_fin ⟨.inl rfl, id, _, rfl, LeS.tup (.cons (.refl _) (.cons (.qb rfl) .nil)), trivial, rfl, rfl⟩
          | (exfalso; simp at h; done)
          | (exfalso; rename_i hf; simp at hf; done)
          | (exfalso; rename_i hf _; simp at hf; done)
      | true =>
        have hD := digit_ok (x.toNat : Int)
        rw [show isDigit (x.toNat : Int) = true from hd] at hD
        have hxb := dB_iff.1 hd
        have w1 : IntKind.i64.wrap (numV ((lst s).take i) 0 * 10) = numV ((lst s).take i) 0 * 10 := wrap64 (by omega)
        have w2 : IntKind.u8.wrap ((x.toNat : Int) - 48) = (x.toNat : Int) - 48 := by
          unfold IntKind.wrap; simp [IntKind.bits, IntKind.signed]; omega
        have w3 : IntKind.i64.wrap ((x.toNat : Int) - 48) = (x.toNat : Int) - 48 := wrap64 (by omega)
        have w4 : IntKind.i64.wrap (numV ((lst s).take i) 0 * 10 + ((x.toNat : Int) - 48)) = numV ((lst s).take (i + 1)) 0 := by rw [hsn]; exact wrap64 (by omega)
        have hall : ((lst s).take (i + 1)).all dB = true := by rw [all_take hx, hn, hd]; rfl
        repeat' first
          | refine g_go T hC true 400 rfl rfl ?_
          | refine g_cond rfl (fun h => ?_) (fun h => ?_)
          | refine g_end T hC (by kernel_rfl) ?_
          | refine g_splitD (fun h => ?_) (fun h => ?_)
          | refine g_splitG rfl rfl rfl (fun h => ?_) (fun h => ?_)
          | refine g_splitP rfl rfl (fun h => ?_) (fun h => ?_)
          | refine g_idxS T hC rfl rfl rfl (Int.natCast_nonneg _) (lst_at hx) rfl rfl ?_
          | refine g_call hC (hD) rfl rfl (LeSs.refl _) rfl rfl rfl ?_
          | refine g_outR ?_
        all_goals (try (exfalso; simp at h; done))
        all_goals (rw [w1, w2, w3, w4] at h)
        all_goals first
          | (have hgt := of_decide_eq_true h
             have hnn : numOk (lst s) = false := by
               rw [hok]
               cases ha : (lst s).all dB with
               | false => rfl
               | true =>
                 have := numV_take_le ha (i + 1)
                 rw [Bool.true_and]; exact decide_eq_false (by omega)
             rw [no hnn, hnn]
             exact g_fin ⟨.inl rfl, id, _, rfl, LeS.tup (.cons (.refl _) (.cons (.qb rfl) .nil)), trivial, rfl, rfl⟩)
          | (have hle := of_decide_eq_false h
             rw [w1, w2, w3, w4, wrapS (by omega)]
             exact g_round (i + 1) ⟨by omega, hall, by omega⟩ id (by omega) ⟨rfl, ⟨rfl, rfl, rfl, trivial⟩, trivial, rfl, fun _ _ => rfl⟩)
    · have hge : ¬ i < (lst s).length := by have := of_decide_eq_false hh; omega
      have hall := all_end (p := dB) (by omega) hn
      rw [List.take_of_length_le (by omega)] at hm ⊢
      have hyes : numOk (lst s) = true := by rw [hok, hall, decide_eq_true hm]; rfl
      have hnr : numR (lst s) = numV (lst s) 0 := by unfold numR; rw [if_pos hyes]
      clear hh
      rw [hyes, hnr]
      repeat' first
        | refine g_go T hC true 400 rfl rfl ?_
        | refine g_cond rfl (fun h => ?_) (fun h => ?_)
        | refine g_end T hC (by kernel_rfl) ?_
        | refine g_splitD (fun h => ?_) (fun h => ?_)
        | refine g_splitG rfl rfl rfl (fun h => ?_) (fun h => ?_)
        | refine g_splitP rfl rfl (fun h => ?_) (fun h => ?_)
        | refine g_outE ?_
      exact g_fin ⟨.inl rfl, id, _, rfl, LeS.tup (.cons (.refl _) (.cons (.qb rfl) .nil)), trivial, rfl, rfl⟩
theorem classify_ok (s : Str) (ln cl : Int) (hs : s.size ≤ 1000000) : (∀ t, clsT (lst s) = some t → FnOK Tryd.prog 30 [Sr s, aggS [ki ln, ki cl]] [] (.tup [aggS (tokC t.1 t.2.1 t.2.2 ln cl), Bo true]) []) ∧ (clsT (lst s) = none → FnOK Tryd.prog 30 [Sr s, aggS [ki ln, ki cl]] [] (.tup [aggS (tokC 2 (⟨#[]⟩ : ByteArray) 0 ln cl), Bo false]) []) := by
  have hK := isKeyword_ok s
  have hN := isName_ok s
  have hI := rNumber_ok s hs
  unfold clsT
  rw [str_lst]
  cases hk : isKeyword s with
  | true =>
    rw [hk] at hK
    refine ⟨fun t ht => ?_, fun h => by simp at h⟩
    rw [if_pos rfl] at ht
    obtain rfl := Option.some.inj ht
    refine fn_ok T Tryd.func30 (by kernel_rfl) rfl rfl rfl rfl fun C hC => ?_
    repeat' first
      | refine g_go T hC true 400 rfl rfl ?_
      | refine g_cond rfl (fun h => ?_) (fun h => ?_)
      | refine g_end T hC (by kernel_rfl) ?_
      | refine g_splitD (fun h => ?_) (fun h => ?_)
      | refine g_splitG rfl rfl rfl (fun h => ?_) (fun h => ?_)
      | refine g_splitP rfl rfl (fun h => ?_) (fun h => ?_)
      | refine g_call hC (hK) rfl rfl (LeSs.refl _) rfl rfl rfl ?_
    all_goals first
      | exact g_fin ⟨.inl rfl, id, _, rfl, .refl _, trivial, rfl, rfl⟩
      | (exfalso; simp_all; done)
  | false =>
  rw [hk] at hK
  cases hn : isName s with
  | true =>
    rw [hn] at hN
    refine ⟨fun t ht => ?_, fun h => by simp at h⟩
    simp only [Bool.false_eq_true, if_false, if_true] at ht
    obtain rfl := Option.some.inj ht
    refine fn_ok T Tryd.func30 (by kernel_rfl) rfl rfl rfl rfl fun C hC => ?_
    repeat' first
      | refine g_go T hC true 400 rfl rfl ?_
      | refine g_cond rfl (fun h => ?_) (fun h => ?_)
      | refine g_end T hC (by kernel_rfl) ?_
      | refine g_splitD (fun h => ?_) (fun h => ?_)
      | refine g_splitG rfl rfl rfl (fun h => ?_) (fun h => ?_)
      | refine g_splitP rfl rfl (fun h => ?_) (fun h => ?_)
      | refine g_call hC (hK) rfl rfl (LeSs.refl _) rfl rfl rfl ?_
      | refine g_call hC (hN) rfl rfl (LeSs.refl _) rfl rfl rfl ?_
    all_goals first
      | exact g_fin ⟨.inl rfl, id, _, rfl, .refl _, trivial, rfl, rfl⟩
      | (exfalso; simp_all; done)
  | false =>
  rw [hn] at hN
  cases ho : numOk (lst s) with
  | true =>
    rw [ho] at hI
    unfold numR at hI
    rw [if_pos ho] at hI
    refine ⟨fun t ht => ?_, fun h => by simp at h⟩
    simp only [Bool.false_eq_true, if_false, if_true] at ht
    obtain rfl := Option.some.inj ht
    refine fn_ok T Tryd.func30 (by kernel_rfl) rfl rfl rfl rfl fun C hC => ?_
    repeat' first
      | refine g_go T hC true 400 rfl rfl ?_
      | refine g_cond rfl (fun h => ?_) (fun h => ?_)
      | refine g_end T hC (by kernel_rfl) ?_
      | refine g_splitD (fun h => ?_) (fun h => ?_)
      | refine g_splitG rfl rfl rfl (fun h => ?_) (fun h => ?_)
      | refine g_splitP rfl rfl (fun h => ?_) (fun h => ?_)
      | refine g_call hC (hK) rfl rfl (LeSs.refl _) rfl rfl rfl ?_
      | refine g_call hC (hN) rfl rfl (LeSs.refl _) rfl rfl rfl ?_
      | refine g_call hC (hI) rfl rfl (LeSs.refl _) rfl rfl rfl ?_
    all_goals first
      | exact g_fin ⟨.inl rfl, id, _, rfl, LeS.tup (.cons (.refl _) (.cons (.bq rfl) .nil)), trivial, rfl, rfl⟩
      | (exfalso; simp_all; done)
  | false =>
    rw [ho] at hI
    unfold numR at hI
    rw [if_neg (by simp [ho])] at hI
    refine ⟨fun t ht => by simp at ht, fun _ => ?_⟩
    refine fn_ok T Tryd.func30 (by kernel_rfl) rfl rfl rfl rfl fun C hC => ?_
    repeat' first
      | refine g_go T hC true 400 rfl rfl ?_
      | refine g_cond rfl (fun h => ?_) (fun h => ?_)
      | refine g_end T hC (by kernel_rfl) ?_
      | refine g_splitD (fun h => ?_) (fun h => ?_)
      | refine g_splitG rfl rfl rfl (fun h => ?_) (fun h => ?_)
      | refine g_splitP rfl rfl (fun h => ?_) (fun h => ?_)
      | refine g_call hC (hK) rfl rfl (LeSs.refl _) rfl rfl rfl ?_
      | refine g_call hC (hN) rfl rfl (LeSs.refl _) rfl rfl rfl ?_
      | refine g_call hC (hI) rfl rfl (LeSs.refl _) rfl rfl rfl ?_
    all_goals first
      | exact g_fin ⟨.inl rfl, id, _, rfl, LeS.tup (.cons (.refl _) (.cons (.bq rfl) .nil)), trivial, rfl, rfl⟩
      | (exfalso; simp_all; done)
theorem symbols_ok : FnOK Tryd.prog 37 [] [] (pS (strsP syms)) [] := by
  refine fn_ok T Tryd.func37 (by kernel_rfl) rfl rfl rfl rfl fun C hC => ?_
  repeat' first
    | refine g_go T hC true 400 rfl rfl ?_
    | refine g_cond rfl (fun h => ?_) (fun h => ?_)
    | refine g_end T hC (by kernel_rfl) ?_
    | refine g_splitD (fun h => ?_) (fun h => ?_)
    | refine g_splitG rfl rfl rfl (fun h => ?_) (fun h => ?_)
    | refine g_splitP rfl rfl (fun h => ?_) (fun h => ?_)
    | refine g_lit T hC rfl rfl rfl rfl rfl rfl rfl rfl rfl ?_
  exact g_fin ⟨.inl rfl, id, _, rfl, .refl _, trivial, rfl, rfl⟩
theorem prefix_eq (y s : Str) : (lst y).isPrefixOf (lst s) = (decide ((y.size : Int) ≤ (s.size : Int)) && decide (s.extract 0 y.size = y)) := by
  rw [Bool.eq_iff_iff, Bool.and_eq_true, decide_eq_true_eq, decide_eq_true_eq, List.isPrefixOf_iff_prefix]
  have hx := extract_str s 0 y.size
  rw [List.drop_zero, Nat.sub_zero] at hx
  constructor
  · intro h
    have hle := h.length_le
    rw [lst_len, lst_len] at hle
    refine ⟨by omega, ?_⟩
    obtain ⟨t, ht⟩ := h
    rw [hx, ← ht, ← lst_len, List.take_left, str_lst]
  · rintro ⟨_, h⟩
    rw [hx] at h
    have := congrArg lst h
    rw [lst_str] at this
    rw [← this]; exact List.take_prefix _ _
theorem rSymbol_ok (s : Str) : FnOK Tryd.prog 31 [Sr s] [] (Sr ((symL (lst s)).getD (⟨#[]⟩ : ByteArray))) [] := by
  refine fn_ok T Tryd.func31 (by kernel_rfl) rfl rfl rfl rfl fun C hC => ?_
  repeat' first
    | refine g_go T hC true 400 rfl rfl ?_
    | refine g_cond rfl (fun h => ?_) (fun h => ?_)
    | refine g_end T hC (by kernel_rfl) ?_
    | refine g_splitD (fun h => ?_) (fun h => ?_)
    | refine g_splitG rfl rfl rfl (fun h => ?_) (fun h => ?_)
    | refine g_splitP rfl rfl (fun h => ?_) (fun h => ?_)
    | refine g_call hC (symbols_ok) rfl rfl (LeSs.refl _) rfl rfl rfl ?_
  refine g_loop (fun i : Nat => i ≤ syms.length ∧ ∀ y ∈ syms.take i, (lst y).isPrefixOf (lst s) = false) (fun i => ([(0, Sr s), (3, pS (strsP syms)), (4, I i)], [])) (fun i => syms.length - i) hC
    0 ⟨Nat.zero_le _, by simp⟩ id ⟨rfl, ⟨rfl, rfl, rfl, trivial⟩, trivial, rfl, fun _ _ => rfl⟩ ?_
  rintro i ⟨hi, hn⟩
  refine g_run' T hC true 200 rfl ?_
  refine g_cond rfl (fun hh => ?_) (fun hh => ?_)
  · have hlt : i < syms.length := by have := of_decide_eq_true hh; simp only [List.length_map] at this; omega
    clear hh
    obtain ⟨y, hy⟩ := exists_at hlt
    have h21 : syms.length = 21 := rfl
    have hpe := prefix_eq y s
    cases hp : (lst y).isPrefixOf (lst s) with
    | true =>
      have hsy : symL (lst s) = some y := by
        unfold symL
        rw [List.find?_eq_some_iff_getElem]
        refine ⟨hp, i, hlt, (List.getElem?_eq_some_iff.1 hy).2, fun j hj => ?_⟩
        have := hn (syms[j]'(by omega)) (List.mem_take_iff_getElem.2 ⟨j, by omega, rfl⟩)
        rw [this]; rfl
      rw [hp] at hpe
      have hpe := hpe.symm
      simp only [Bool.and_eq_true, decide_eq_true_eq] at hpe
      rw [hsy]
      repeat' first
        | refine g_go T hC true 400 rfl rfl ?_
        | refine g_cond rfl (fun h => ?_) (fun h => ?_)
        | refine g_end T hC (by kernel_rfl) ?_
        | refine g_splitD (fun h => ?_) (fun h => ?_)
        | refine g_splitG rfl rfl rfl (fun h => ?_) (fun h => ?_)
        | refine g_splitP rfl rfl (fun h => ?_) (fun h => ?_)
        | refine g_idx T hC rfl rfl rfl (Int.natCast_nonneg _) (map_at hy) rfl rfl ?_
        | (refine g_slTo hC rfl rfl (by kernel_rfl) (Int.natCast_nonneg _) hpe.1 rfl rfl ?_)
        | refine g_outR ?_
      all_goals first
        | exact g_fin ⟨.inl rfl, id, _, rfl, .refl _, trivial, rfl, rfl⟩
        | (exfalso; simp only [decide_eq_false_iff_not] at h; exact h hpe.1)
        | (exfalso; simp only [decide_eq_false_iff_not] at h; exact h hpe.2)
    | false =>
      rw [hp] at hpe
      have hpe := hpe.symm
      repeat' first
        | refine g_go T hC true 400 rfl rfl ?_
        | refine g_cond rfl (fun h => ?_) (fun h => ?_)
        | refine g_end T hC (by kernel_rfl) ?_
        | refine g_splitD (fun h => ?_) (fun h => ?_)
        | refine g_splitG rfl rfl rfl (fun h => ?_) (fun h => ?_)
        | refine g_splitP rfl rfl (fun h => ?_) (fun h => ?_)
        | refine g_idx T hC rfl rfl rfl (Int.natCast_nonneg _) (map_at hy) rfl rfl ?_
        | (refine g_slTo hC rfl rfl (by kernel_rfl) (Int.natCast_nonneg _) (of_decide_eq_true h) rfl rfl ?_)
        | refine g_outR ?_
      all_goals first
        | (rw [wrapS (by omega)]
           refine g_round (i + 1) ⟨by omega, fun z hz => ?_⟩ id (by omega) ⟨rfl, ⟨rfl, rfl, rfl, trivial⟩, trivial, rfl, fun _ _ => rfl⟩
           rw [List.take_add_one, hy] at hz
           rcases List.mem_append.1 hz with hz | hz
           · exact hn z hz
           · simp only [Option.toList_some, List.mem_singleton] at hz; subst hz; exact hp)
        | (exfalso; rename_i h1; have e1 : decide ((y.size : Int) ≤ (s.size : Int)) = true := h1; have e2 : decide (s.extract 0 y.size = y) = true := h; rw [e1, e2] at hpe; cases hpe)
  · have hge : ¬ i < syms.length := by have := of_decide_eq_false hh; simp only [List.length_map] at this; omega
    clear hh
    have hno : symL (lst s) = none := by
      unfold symL
      rw [List.find?_eq_none]
      intro y hy
      rw [hn y (by rw [List.take_of_length_le (by omega)]; exact hy)]; simp
    rw [hno]
    repeat' first
      | refine g_go T hC true 400 rfl rfl ?_
      | refine g_cond rfl (fun h => ?_) (fun h => ?_)
      | refine g_end T hC (by kernel_rfl) ?_
      | refine g_splitD (fun h => ?_) (fun h => ?_)
      | refine g_splitG rfl rfl rfl (fun h => ?_) (fun h => ?_)
      | refine g_splitP rfl rfl (fun h => ?_) (fun h => ?_)
      | refine g_outE ?_
    exact g_fin ⟨.inl rfl, id, _, rfl, .refl _, trivial, rfl, rfl⟩
theorem move_ok (p : Int × Int) (c : UInt8) (h1 : 0 ≤ p.1 ∧ p.1 ≤ 1000000) (h2 : 0 ≤ p.2 ∧ p.2 ≤ 1000000) : FnOK Tryd.prog 28 [aggS [ki p.1, ki p.2], uc c.toNat] [] (aggS [ki (mv p c).1, ki (mv p c).2]) [] := by
  have w1 : IntKind.i64.wrap (p.1 + 1) = p.1 + 1 := wrap64 (by omega)
  have w2 : IntKind.i64.wrap (p.2 + 1) = p.2 + 1 := wrap64 (by omega)
  unfold mv
  by_cases hc : c = 10
  · subst hc
    refine fn_ok T Tryd.func28 (by kernel_rfl) rfl rfl rfl rfl fun C hC => ?_
    repeat' first
      | refine g_go T hC true 400 rfl rfl ?_
      | refine g_cond rfl (fun h => ?_) (fun h => ?_)
      | refine g_end T hC (by kernel_rfl) ?_
      | refine g_splitD (fun h => ?_) (fun h => ?_)
      | refine g_splitG rfl rfl rfl (fun h => ?_) (fun h => ?_)
      | refine g_splitP rfl rfl (fun h => ?_) (fun h => ?_)
    all_goals first
      | (rw [w1]; exact g_fin ⟨.inl rfl, id, _, rfl, .refl _, trivial, rfl, rfl⟩)
      | (exfalso; revert h; decide)
  · have hc' : ¬ (c.toNat : Int) = 10 := fun e => hc (UInt8.toNat_inj.1 (by have : (10 : UInt8).toNat = 10 := rfl; omega))
    rw [if_neg hc]
    refine fn_ok T Tryd.func28 (by kernel_rfl) rfl rfl rfl rfl fun C hC => ?_
    repeat' first
      | refine g_go T hC true 400 rfl rfl ?_
      | refine g_cond rfl (fun h => ?_) (fun h => ?_)
      | refine g_end T hC (by kernel_rfl) ?_
      | refine g_splitD (fun h => ?_) (fun h => ?_)
      | refine g_splitG rfl rfl rfl (fun h => ?_) (fun h => ?_)
      | refine g_splitP rfl rfl (fun h => ?_) (fun h => ?_)
    all_goals first
      | (rw [w2]; exact g_fin ⟨.inl rfl, id, _, rfl, .refl _, trivial, rfl, rfl⟩)
      | (exfalso; exact hc' (of_decide_eq_true h))
end Hw.L
