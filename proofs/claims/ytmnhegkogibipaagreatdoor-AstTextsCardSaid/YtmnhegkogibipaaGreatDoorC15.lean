/- The library's functions at this program: their numbers. -/
import Derived.Test.YtmnhegkogibipaaGreatDoorProg
import Derived.KernelRfl
import Derived.Shelf.Strings.OnBuilder
import Derived.Shelf.Strings.Repeat
import Derived.Shelf.Strings.Prefix
import Derived.Shelf.Strconv.Itoa3
import Derived.Test.YtmnhegkogibipaaGreatDoorC14
import Derived.Test.YtmnhegkogibipaaGreatDoorC10
import Derived.Test.YtmnhegkogibipaaGreatDoorC11
set_option linter.unusedVariables false
set_option linter.unusedSimpArgs false
namespace Hw.Z
open Go Go.Proofs Go.Shelf
def laysJoin_ren : Go.Shelf.Ren := ⟨fun | 156 => 152 | 165 => 195 | 166 => 196 | 169 => 197 | 240 => 237 | 241 => 238 | 276 => 255 | 277 => 256 | n => n, fun | 31 => 99 | 9 => 9 | 3 => 3 | 4 => 4 | 0 => 0 | 20 => 20 | 72 => 230 | 76 => 233 | 70 => 228 | 37 => 77 | 75 => 232 | 127 => 265 | 164 => 279 | 5 => 5 | 80 => 235 | n => n, fun | n => n⟩
theorem laysJoin : Go.Proofs.Lays.n156 Tryz.prog laysJoin_ren where
  mixed := by kernel_rfl
  f156 := Tryz.func152.trans (congrArg some (by kernel_rfl))
  f165 := Tryz.func195.trans (congrArg some (by kernel_rfl))
  f166 := Tryz.func196.trans (congrArg some (by kernel_rfl))
  f169 := Tryz.func197.trans (congrArg some (by kernel_rfl))
  f240 := Tryz.func237.trans (congrArg some (by kernel_rfl))
  f241 := Tryz.func238.trans (congrArg some (by kernel_rfl))
  f276 := Tryz.func255.trans (congrArg some (by kernel_rfl))
  f277 := Tryz.func256.trans (congrArg some (by kernel_rfl))
  t0 := Tryz.underlying0
  a0 := Tryz.isAgg0
  z0 := Tryz.sizeOf0
  v0 := Tryz.zeroValue0
  t3 := Tryz.underlying3
  a3 := Tryz.isAgg3
  z3 := Tryz.sizeOf3
  v3 := Tryz.zeroValue3
  t4 := Tryz.underlying4
  a4 := Tryz.isAgg4
  z4 := Tryz.sizeOf4
  v4 := Tryz.zeroValue4
  t9 := Tryz.underlying9
  a9 := Tryz.isAgg9
  z9 := Tryz.sizeOf9
  v9 := Tryz.zeroValue9
  t20 := Tryz.underlying20
  a20 := Tryz.isAgg20
  z20 := Tryz.sizeOf20
  v20 := Tryz.zeroValue20
  t31 := Tryz.underlying99
  a31 := Tryz.isAgg99
  z31 := Tryz.sizeOf99
  v31 := Tryz.zeroValue99
  t37 := Tryz.underlying77
  a37 := Tryz.isAgg77
  z37 := Tryz.sizeOf77
  v37 := Tryz.zeroValue77
  t70 := Tryz.underlying228
  a70 := Tryz.isAgg228
  z70 := Tryz.sizeOf228
  v70 := Tryz.zeroValue228
  t72 := Tryz.underlying230
  a72 := Tryz.isAgg230
  z72 := Tryz.sizeOf230
  v72 := Tryz.zeroValue230
  t75 := Tryz.underlying232
  a75 := Tryz.isAgg232
  z75 := Tryz.sizeOf232
  v75 := Tryz.zeroValue232
  t76 := Tryz.underlying233
  a76 := Tryz.isAgg233
  z76 := Tryz.sizeOf233
  v76 := Tryz.zeroValue233
  t127 := Tryz.underlying265
  a127 := Tryz.isAgg265
  z127 := Tryz.sizeOf265
  v127 := Tryz.zeroValue265
  t164 := Tryz.underlying279
  a164 := Tryz.isAgg279
  z164 := Tryz.sizeOf279
  v164 := Tryz.zeroValue279
def laysRep_ren : Go.Shelf.Ren := ⟨fun | 105 => 199 | 212 => 239 | 99 => 200 | 165 => 195 | 166 => 196 | 170 => 240 | 169 => 197 | 263 => 257 | 264 => 258 | 206 => 241 | 240 => 237 | 241 => 238 | 276 => 255 | 277 => 256 | n => n, fun | 9 => 9 | 3 => 3 | 4 => 4 | 20 => 20 | 0 => 0 | 46 => 212 | 109 => 266 | 5 => 5 | 72 => 230 | 76 => 233 | 51 => 254 | 146 => 282 | 53 => 220 | 148 => 284 | 70 => 228 | 37 => 77 | 75 => 232 | 127 => 265 | 164 => 279 | 80 => 235 | n => n, fun | n => n⟩
theorem laysRep : Go.Proofs.Lays.n105 Tryz.prog laysRep_ren where
  mixed := by kernel_rfl
  f99 := Tryz.func200.trans (congrArg some (by kernel_rfl))
  f105 := Tryz.func199.trans (congrArg some (by kernel_rfl))
  f165 := Tryz.func195.trans (congrArg some (by kernel_rfl))
  f166 := Tryz.func196.trans (congrArg some (by kernel_rfl))
  f169 := Tryz.func197.trans (congrArg some (by kernel_rfl))
  f170 := Tryz.func240.trans (congrArg some (by kernel_rfl))
  f206 := Tryz.func241.trans (congrArg some (by kernel_rfl))
  f212 := Tryz.func239.trans (congrArg some (by kernel_rfl))
  f240 := Tryz.func237.trans (congrArg some (by kernel_rfl))
  f241 := Tryz.func238.trans (congrArg some (by kernel_rfl))
  f263 := Tryz.func257.trans (congrArg some (by kernel_rfl))
  f264 := Tryz.func258.trans (congrArg some (by kernel_rfl))
  f276 := Tryz.func255.trans (congrArg some (by kernel_rfl))
  f277 := Tryz.func256.trans (congrArg some (by kernel_rfl))
  t0 := Tryz.underlying0
  a0 := Tryz.isAgg0
  z0 := Tryz.sizeOf0
  v0 := Tryz.zeroValue0
  t3 := Tryz.underlying3
  a3 := Tryz.isAgg3
  z3 := Tryz.sizeOf3
  v3 := Tryz.zeroValue3
  t4 := Tryz.underlying4
  a4 := Tryz.isAgg4
  z4 := Tryz.sizeOf4
  v4 := Tryz.zeroValue4
  t5 := Tryz.underlying5
  a5 := Tryz.isAgg5
  z5 := Tryz.sizeOf5
  v5 := Tryz.zeroValue5
  t9 := Tryz.underlying9
  a9 := Tryz.isAgg9
  z9 := Tryz.sizeOf9
  v9 := Tryz.zeroValue9
  t20 := Tryz.underlying20
  a20 := Tryz.isAgg20
  z20 := Tryz.sizeOf20
  v20 := Tryz.zeroValue20
  t37 := Tryz.underlying77
  a37 := Tryz.isAgg77
  z37 := Tryz.sizeOf77
  v37 := Tryz.zeroValue77
  t46 := Tryz.underlying212
  a46 := Tryz.isAgg212
  z46 := Tryz.sizeOf212
  v46 := Tryz.zeroValue212
  t51 := Tryz.underlying254
  a51 := Tryz.isAgg254
  z51 := Tryz.sizeOf254
  v51 := Tryz.zeroValue254
  t53 := Tryz.underlying220
  a53 := Tryz.isAgg220
  z53 := Tryz.sizeOf220
  v53 := Tryz.zeroValue220
  t70 := Tryz.underlying228
  a70 := Tryz.isAgg228
  z70 := Tryz.sizeOf228
  v70 := Tryz.zeroValue228
  t72 := Tryz.underlying230
  a72 := Tryz.isAgg230
  z72 := Tryz.sizeOf230
  v72 := Tryz.zeroValue230
  t75 := Tryz.underlying232
  a75 := Tryz.isAgg232
  z75 := Tryz.sizeOf232
  v75 := Tryz.zeroValue232
  t76 := Tryz.underlying233
  a76 := Tryz.isAgg233
  z76 := Tryz.sizeOf233
  v76 := Tryz.zeroValue233
  t109 := Tryz.underlying266
  a109 := Tryz.isAgg266
  z109 := Tryz.sizeOf266
  v109 := Tryz.zeroValue266
  t127 := Tryz.underlying265
  a127 := Tryz.isAgg265
  z127 := Tryz.sizeOf265
  v127 := Tryz.zeroValue265
  t146 := Tryz.underlying282
  a146 := Tryz.isAgg282
  z146 := Tryz.sizeOf282
  v146 := Tryz.zeroValue282
  t148 := Tryz.underlying284
  a148 := Tryz.isAgg284
  z148 := Tryz.sizeOf284
  v148 := Tryz.zeroValue284
  t164 := Tryz.underlying279
  a164 := Tryz.isAgg279
  z164 := Tryz.sizeOf279
  v164 := Tryz.zeroValue279
def laysPre_ren : Go.Shelf.Ren := ⟨fun | 99 => 200 | 206 => 241 | n => n, fun | 9 => 9 | 4 => 4 | 3 => 3 | n => n, fun | n => n⟩
theorem laysPre : Go.Proofs.Lays.n99 Tryz.prog laysPre_ren where
  mixed := by kernel_rfl
  f99 := Tryz.func200.trans (congrArg some (by kernel_rfl))
  f206 := Tryz.func241.trans (congrArg some (by kernel_rfl))
  t3 := Tryz.underlying3
  a3 := Tryz.isAgg3
  z3 := Tryz.sizeOf3
  v3 := Tryz.zeroValue3
  t4 := Tryz.underlying4
  a4 := Tryz.isAgg4
  z4 := Tryz.sizeOf4
  v4 := Tryz.zeroValue4
  t9 := Tryz.underlying9
  a9 := Tryz.isAgg9
  z9 := Tryz.sizeOf9
  v9 := Tryz.zeroValue9
def laysTrim_ren : Go.Shelf.Ren := ⟨fun | 102 => 94 | 209 => 156 | 207 => 203 | n => n, fun | 9 => 9 | 4 => 4 | 3 => 3 | n => n, fun | n => n⟩
theorem laysTrim : Go.Proofs.Lays.n102 Tryz.prog laysTrim_ren where
  mixed := by kernel_rfl
  f102 := Tryz.func94.trans (congrArg some (by kernel_rfl))
  f207 := Tryz.func203.trans (congrArg some (by kernel_rfl))
  f209 := Tryz.func156.trans (congrArg some (by kernel_rfl))
  t3 := Tryz.underlying3
  a3 := Tryz.isAgg3
  z3 := Tryz.sizeOf3
  v3 := Tryz.zeroValue3
  t4 := Tryz.underlying4
  a4 := Tryz.isAgg4
  z4 := Tryz.sizeOf4
  v4 := Tryz.zeroValue4
  t9 := Tryz.underlying9
  a9 := Tryz.isAgg9
  z9 := Tryz.sizeOf9
  v9 := Tryz.zeroValue9
def laysItoa_ren : Go.Shelf.Ren := ⟨fun | 171 => 93 | 243 => 155 | 246 => 202 | 283 => 230 | 284 => 231 | 285 => 232 | 286 => 233 | 129 => 227 | 317 => 251 | 318 => 252 | 319 => 253 | 320 => 254 | 337 => 264 | 338 => 265 | n => n, fun | 3 => 3 | 9 => 9 | 2 => 2 | 4 => 4 | 171 => 258 | 0 => 0 | 53 => 220 | 37 => 77 | 5 => 5 | 173 => 260 | 212 => 276 | 51 => 254 | 20 => 20 | 213 => 277 | 46 => 212 | 232 => 297 | 233 => 298 | n => n, fun | 17 => 0 | 18 => 4 | 19 => 5 | n => n⟩
theorem laysItoa : Go.Proofs.LaysM.n171 Tryz.prog laysItoa_ren where
  mixed := by kernel_rfl
  f129 := Tryz.func227.trans (congrArg some (by kernel_rfl))
  f171 := Tryz.func93.trans (congrArg some (by kernel_rfl))
  f243 := Tryz.func155.trans (congrArg some (by kernel_rfl))
  f246 := Tryz.func202.trans (congrArg some (by kernel_rfl))
  f283 := Tryz.func230.trans (congrArg some (by kernel_rfl))
  f284 := Tryz.func231.trans (congrArg some (by kernel_rfl))
  f285 := Tryz.func232.trans (congrArg some (by kernel_rfl))
  f286 := Tryz.func233.trans (congrArg some (by kernel_rfl))
  f317 := Tryz.func251.trans (congrArg some (by kernel_rfl))
  f318 := Tryz.func252.trans (congrArg some (by kernel_rfl))
  f319 := Tryz.func253.trans (congrArg some (by kernel_rfl))
  f320 := Tryz.func254.trans (congrArg some (by kernel_rfl))
  f337 := Tryz.func264.trans (congrArg some (by kernel_rfl))
  f338 := Tryz.func265.trans (congrArg some (by kernel_rfl))
  t0 := Tryz.underlying0
  a0 := Tryz.isAgg0
  z0 := Tryz.sizeOf0
  v0 := Tryz.zeroValue0
  t2 := Tryz.underlying2
  a2 := Tryz.isAgg2
  z2 := Tryz.sizeOf2
  v2 := Tryz.zeroValue2
  t3 := Tryz.underlying3
  a3 := Tryz.isAgg3
  z3 := Tryz.sizeOf3
  v3 := Tryz.zeroValue3
  t4 := Tryz.underlying4
  a4 := Tryz.isAgg4
  z4 := Tryz.sizeOf4
  v4 := Tryz.zeroValue4
  t5 := Tryz.underlying5
  a5 := Tryz.isAgg5
  z5 := Tryz.sizeOf5
  v5 := Tryz.zeroValue5
  t9 := Tryz.underlying9
  a9 := Tryz.isAgg9
  z9 := Tryz.sizeOf9
  v9 := Tryz.zeroValue9
  t20 := Tryz.underlying20
  a20 := Tryz.isAgg20
  z20 := Tryz.sizeOf20
  v20 := Tryz.zeroValue20
  t37 := Tryz.underlying77
  a37 := Tryz.isAgg77
  z37 := Tryz.sizeOf77
  v37 := Tryz.zeroValue77
  t46 := Tryz.underlying212
  a46 := Tryz.isAgg212
  z46 := Tryz.sizeOf212
  v46 := Tryz.zeroValue212
  t51 := Tryz.underlying254
  a51 := Tryz.isAgg254
  z51 := Tryz.sizeOf254
  v51 := Tryz.zeroValue254
  t53 := Tryz.underlying220
  a53 := Tryz.isAgg220
  z53 := Tryz.sizeOf220
  v53 := Tryz.zeroValue220
  t171 := Tryz.underlying258
  a171 := Tryz.isAgg258
  z171 := Tryz.sizeOf258
  v171 := Tryz.zeroValue258
  t173 := Tryz.underlying260
  a173 := Tryz.isAgg260
  z173 := Tryz.sizeOf260
  v173 := Tryz.zeroValue260
  t212 := Tryz.underlying276
  a212 := Tryz.isAgg276
  z212 := Tryz.sizeOf276
  v212 := Tryz.zeroValue276
  t213 := Tryz.underlying277
  a213 := Tryz.isAgg277
  z213 := Tryz.sizeOf277
  t232 := Tryz.underlying297
  a232 := Tryz.isAgg297
  z232 := Tryz.sizeOf297
  v232 := Tryz.zeroValue297
  t233 := Tryz.underlying298
  a233 := Tryz.isAgg298
  z233 := Tryz.sizeOf298
  v233 := Tryz.zeroValue298
  g17 := by kernel_rfl
  g18 := by kernel_rfl
  g19 := by kernel_rfl
  i0 := by kernel_rfl
  i2 := by kernel_rfl
  i3 := by kernel_rfl
  i4 := by kernel_rfl
  i5 := by kernel_rfl
  i9 := by kernel_rfl
  i20 := by kernel_rfl
  i37 := by kernel_rfl
  i46 := by kernel_rfl
  i51 := by kernel_rfl
  i53 := by kernel_rfl
  i171 := by kernel_rfl
  i173 := by kernel_rfl
  i212 := by kernel_rfl
  i232 := by kernel_rfl
  i233 := by kernel_rfl
  m17 := by kernel_rfl
  m18 := by kernel_rfl
  m19 := by kernel_rfl
end Hw.Z
namespace Hw.Z
open Go Go.Proofs Go.Shelf Hw.M

/-! The library's functions on strings -/
theorem joinX : Builder.Extra Tryz.prog laysJoin_ren where
  sizeBuilder := by kernel_rfl
  liesBuilder := by kernel_rfl
  t5 := laysRep.t5
  a5 := laysRep.a5
  z5 := laysRep.z5
  v5 := laysRep.v5
  infoByte := by kernel_rfl
  cellsByte := by kernel_rfl
  sizeByte := by kernel_rfl
  neB5 := by decide
theorem repX : Builder.Extra Tryz.prog laysRep_ren where
  sizeBuilder := by kernel_rfl
  liesBuilder := by kernel_rfl
  t5 := laysRep.t5
  a5 := laysRep.a5
  z5 := laysRep.z5
  v5 := laysRep.v5
  infoByte := by kernel_rfl
  cellsByte := by kernel_rfl
  sizeByte := by kernel_rfl
  neB5 := by decide
theorem mk_eq {a : Str} {l : List UInt8} (h : a.data.toList = l) : (⟨l.toArray⟩ : Str) = a := by
  subst h; rfl
theorem joinTail_eq (sep : Str) : ∀ (l : List Str) (n : Nat), 0 < n → (catB ((l.zipIdx n).map (sepT sep))).data.toList = Lib.joinTail sep.data.toList (l.map (·.data.toList))
  | [], _, _ => rfl
  | x :: r, n, h => by
    rw [List.zipIdx_cons, List.map_cons, catB, ByteArray.data_append, Array.toList_append, joinTail_eq sep r (n + 1) (by omega), sepT]
    simp only [if_neg (show ¬ n = 0 by omega), ByteArray.data_append, Array.toList_append, Lib.joinTail, List.map_cons, List.flatten_cons]
theorem join_eq (sep : Str) (l : List Str) : (⟨(Lib.join (l.map (·.data.toList)) sep.data.toList).toArray⟩ : Str) = joinT sep l := by
  refine mk_eq ?_
  cases l with
  | nil => rfl
  | cons x r =>
    rw [joinT, List.zipIdx_cons, List.map_cons, catB, ByteArray.data_append, Array.toList_append, joinTail_eq sep r (0 + 1) (by omega), sepT, List.map_cons]
    simp only [if_true, nil_cat]
    rw [Lib.join_cons]
theorem rep_eq (n : Nat) : (⟨(Lib.repeatL tbS.data.toList n).toArray⟩ : Str) = tabS n := by
  refine mk_eq ?_
  induction n with
  | zero => rfl
  | succ n ih =>
    rw [tabS, ByteArray.data_append, Array.toList_append, ih, Lib.repeatL_add, Lib.repeatL_one]
theorem join_ok (l : List Str) (sep : Str) (h : l.length ≤ 1000000) (hs : (joinT sep l).size ≤ 1000000) : FnOK Tryz.prog 152 [pS (strsP l), Sr sep] [] (Sr (joinT sep l)) [] := by
  have hlen : (Lib.join (l.map (·.data.toList)) sep.data.toList).length ≤ 140737488355328 := by
    have := congrArg ByteArray.size (join_eq sep l)
    rw [← this] at hs
    have e : ByteArray.size ⟨(Lib.join (l.map (·.data.toList)) sep.data.toList).toArray⟩ = (Lib.join (l.map (·.data.toList)) sep.data.toList).length := by
      rw [Lib.size_eq]
    omega
  refine fn_strsS (callOK Tryz.func152 (by kernel_rfl) (by kernel_rfl)) (fun hl w a c => ?_) (fun w b o c hb hc hcell => ?_) rfl
  · subst hl
    exact (Any.strings_Join_none laysJoin joinX a c sep w).mono fun e w' ⟨he, hw⟩ => ⟨he, hw ▸ RowKit.Below.refl _ _⟩
  · have := Any.strings_Join laysJoin joinX b o c l sep w hcell hb (by omega) hc hlen
    rw [join_eq] at this
    exact this
theorem repeat_ok (n : Nat) (h : n ≤ 1000) : FnOK Tryz.prog 199 [Sr tbS, I n] [] (Sr (tabS n)) [] :=
  @fn_belowL _ _ [.string tbS, .int .i64 n] _ (callOK Tryz.func199 (by kernel_rfl) (by kernel_rfl)) (fun w _ => by
    have := Any.strings_Repeat laysRep repX tbS n w (by omega) (by show 1 * n ≤ _; omega)
    rw [rep_eq] at this
    exact this) rfl
theorem hasPrefix_ok (s p : Str) : FnOK Tryz.prog 200 [Sr s, Sr p] [] (Bo (Lib.hasPrefix s.data.toList p.data.toList)) [] :=
  @fn_pureL _ _ [.string s, .string p] _ (callOK Tryz.func200 (by kernel_rfl) (by kernel_rfl)) (fun w _ => Any.strings_HasPrefix laysPre s p w) rfl
theorem trimSuffix_ok (s p r : Str) (hs : s.size ≤ 9223372036854775807) (hr : Lib.trimSuffix s.data.toList p.data.toList = r.data.toList) : FnOK Tryz.prog 94 [Sr s, Sr p] [] (Sr r) [] :=
  @fn_pureL _ _ [.string s, .string p] _ (callOK Tryz.func94 (by kernel_rfl) (by kernel_rfl)) (fun w _ => by
    have := Any.strings_TrimSuffix laysTrim s p w hs
    rw [hr] at this
    exact this) rfl
end Hw.Z
namespace Hw.Z
open Go Go.Proofs Go.Shelf Hw.M

/-! The text of a description: fields, statements, procedures -/
theorem tabS_size : ∀ n : Nat, (tabS n).size = n
  | 0 => rfl
  | n + 1 => by
    have : ByteArray.size (⟨#[9]⟩ : Str) = 1 := rfl
    rw [tabS, size_app, tabS_size n]; omega
theorem block1_ok (s : Str) (n : Nat) (hn : n ≤ 1000) (hs : s.size ≤ 7000000) :
    FnOK Tryz.prog 198 [.one (.bx 0 0), .one (.bx 1 0)] [(0, .box [.ar 2]), (1, .box [.p (ki n)]), (2, .arr 1 (bytesR s))] (.tup []) [(0, .box [.ar 3]), (1, .box [.p (ki n)]), (3, .arr 1 (bytesR (s ++ tabS n)))] := by
  have hR := repeat_ok n hn
  have ht := tabS_size n
  refine fn_ok T Tryz.func198 (by kernel_rfl) rfl rfl rfl rfl fun C hC => ?_
  repeat' first
    | refine g_go T hC true 400 rfl rfl ?_
    | refine g_cond rfl (fun h => ?_) (fun h => ?_)
    | refine g_end T hC (by kernel_rfl) ?_
    | refine g_splitD (fun h => ?_) (fun h => ?_)
    | refine g_splitG rfl rfl rfl (fun h => ?_) (fun h => ?_)
    | refine g_splitP rfl rfl (fun h => ?_) (fun h => ?_)
    | refine g_call hC (hR) rfl rfl (LeSs.refl _) rfl rfl rfl ?_
    | (refine g_append T 103 hC (rows := bytesR _) (rows2 := bytesR _) (rows3 := bytesR (_ ++ _)) (bytes := 1) rfl rfl rfl rfl (SrcS.str (by kernel_rfl)) (app_rows rfl) rfl rfl rfl (by kernel_rfl) (by (try simp only [bytesR_len, size_app]); omega) (by (try simp only [bytesR_len, size_app]); omega) rfl rfl rfl ?_)
  exact g_fin ⟨.inr rfl, nm [0, 1, 2, 103], [], rfl, .refl _, ⟨rfl, rfl, rfl, trivial⟩, rfl, rfl⟩
theorem strs_len (l : List Str) : (l.map strR).length = l.length := List.length_map _
theorem decl_size {f : Fld} (h : f.n.size ≤ 40 ∧ f.t.size ≤ 40) : (declT f).size ≤ 81 := by
  have : ByteArray.size (⟨#[32]⟩ : ByteArray) = 1 := rfl
  simp only [declT, size_app]; omega
theorem list_ok (l : List Fld) (sep : Str) (h : l.length ≤ 1000) (hf : ∀ f ∈ l, f.n.size ≤ 40 ∧ f.t.size ≤ 40) (hs : (declsT l sep).size ≤ 1000000) :
    FnOK Tryz.prog 90 [pS (fieldsP l), Sr sep] [] (Sr (declsT l sep)) [] := by
  have hJ := join_ok (l.map declT) sep (by rw [List.length_map]; omega) hs
  have n1 : ByteArray.size (⟨#[32]⟩ : ByteArray) = 1 := rfl
  refine fn_ok T Tryz.func90 (by kernel_rfl) rfl rfl rfl rfl fun C hC => ?_
  repeat' first
    | refine g_go T hC true 400 rfl rfl ?_
    | refine g_cond rfl (fun h => ?_) (fun h => ?_)
    | refine g_end T hC (by kernel_rfl) ?_
    | refine g_splitD (fun h => ?_) (fun h => ?_)
    | refine g_splitG rfl rfl rfl (fun h => ?_) (fun h => ?_)
    | refine g_splitP rfl rfl (fun h => ?_) (fun h => ?_)
  rw [List.length_map]
  refine g_adopt hC rfl 101 1 rfl [(5, .one (.ar 101))] ⟨⟨_, rfl, AdS.nil⟩, trivial⟩ [] trivial ?_
  refine g_loop (fun i : Nat => i ≤ l.length) (fun i => ([(1, Sr sep), (5, .one (.ar 101)), (8, pS (fieldsP l)), (9, I l.length), (10, I i)], [(101, some (Res.arr 1 (((l.map declT).take i).map strR)))])) (fun i => l.length - i) hC
    0 (Nat.zero_le _) id ⟨rfl, ⟨rfl, rfl, rfl, rfl, rfl, trivial⟩, ⟨rfl, trivial⟩, rfl, fun _ _ => rfl⟩ ?_
  intro i hi
  refine g_run' T hC true 200 rfl ?_
  refine g_cond rfl (fun h => ?_) (fun h => ?_)
  · have hlt : i < l.length := by have := of_decide_eq_true h; omega
    clear h
    obtain ⟨x, hx⟩ := exists_at hlt
    have hx2 := hf x (List.mem_of_getElem? hx)
    have hstep : (l.map declT).take (i + 1) = (l.map declT).take i ++ [declT x] := take_snoc9 (by rw [List.getElem?_map, hx]; rfl)
    have hl : ((l.map declT).take i).length ≤ 1000 := by rw [List.length_take, List.length_map]; omega
    generalize (l.map declT).take i = g at hstep hl
    repeat' first
      | refine g_go T hC true 400 rfl rfl ?_
      | refine g_cond rfl (fun h => ?_) (fun h => ?_)
      | refine g_end T hC (by kernel_rfl) ?_
      | refine g_splitD (fun h => ?_) (fun h => ?_)
      | refine g_splitG rfl rfl rfl (fun h => ?_) (fun h => ?_)
      | refine g_splitP rfl rfl (fun h => ?_) (fun h => ?_)
      | refine g_idx T hC rfl rfl rfl (Int.natCast_nonneg _) (map_at (by assumption)) rfl rfl ?_
      | (refine g_cat hC rfl rfl (by (try simp only [size_app]); omega) rfl rfl ?_)
      | refine g_lit T hC rfl rfl rfl rfl rfl rfl rfl rfl rfl ?_
      | (refine g_append T 103 hC (rows := g.map strR) (rows2 := [strR (declT x)]) (rows3 := (g ++ [declT x]).map strR) (bytes := 16) rfl rfl rfl rfl (SrcS.sl (T.es_ok _ _ rfl)) (by rw [List.map_append]; rfl) rfl rfl rfl (by kernel_rfl) (by simp only [strs_len, List.length_singleton]; omega) (by simp only [strs_len, List.length_singleton]; omega) rfl rfl rfl ?_)
    rw [wrap64 (by omega), ← hstep]
    exact g_round (i + 1) (by omega) (mvo 101 103) (by omega) ⟨rfl, ⟨rfl, rfl, rfl, rfl, rfl, trivial⟩, ⟨rfl, trivial⟩, rfl, fun q hq => mvo_low (by omega) hq⟩
  · have hge : ¬ i < l.length := by have := of_decide_eq_false h; omega
    rw [List.take_of_length_le (by rw [List.length_map]; omega)]
    repeat' first
      | refine g_go T hC true 400 rfl rfl ?_
      | refine g_cond rfl (fun h => ?_) (fun h => ?_)
      | refine g_end T hC (by kernel_rfl) ?_
      | refine g_splitD (fun h => ?_) (fun h => ?_)
      | refine g_splitG rfl rfl rfl (fun h => ?_) (fun h => ?_)
      | refine g_splitP rfl rfl (fun h => ?_) (fun h => ?_)
      | refine g_outE ?_
    refine g_freeze rfl (id := 101) (e := 1) (rows := (l.map declT).map strR) rfl [(5, pS (strsP (l.map declT))), (24, pS (strsP (l.map declT)))] ⟨⟨_, rfl, FrS.ar⟩, ⟨_, rfl, FrS.ar⟩, trivial⟩ [] trivial ?_
    repeat' first
      | refine g_go T hC true 400 rfl rfl ?_
      | refine g_cond rfl (fun h => ?_) (fun h => ?_)
      | refine g_end T hC (by kernel_rfl) ?_
      | refine g_splitD (fun h => ?_) (fun h => ?_)
      | refine g_splitG rfl rfl rfl (fun h => ?_) (fun h => ?_)
      | refine g_splitP rfl rfl (fun h => ?_) (fun h => ?_)
      | refine g_call hC (hJ) rfl rfl (LeSs.refl _) rfl rfl rfl ?_
    exact g_fin ⟨.inl rfl, id, _, rfl, .refl _, trivial, rfl, rfl⟩
theorem formula_ok (s h : Str) (e : Ex) (hv : exprOk e = true) (hs : s.size + (formT h e).size ≤ 6000000) :
    FnOK Tryz.prog 92 [.one (.ar 0), Sr h, aggS (exprC e)] (bA 0 s) (.one (.ar 1)) (bA 1 (s ++ formT h e)) := by
  have n1 : ByteArray.size (⟨#[32, 61, 32]⟩ : ByteArray) = 3 := rfl
  have n2 : ByteArray.size nlS = 1 := rfl
  simp only [formT, size_app] at hs
  have hP := part_ok (write_ok (SizeOf.sizeOf e + 1) e 1 (by omega) (of_decide_eq_true hv)) (s ++ (h ++ (⟨#[32, 61, 32]⟩ : ByteArray))) 1 (by simp only [size_app]; omega)
  have hfin : s ++ (h ++ (⟨#[32, 61, 32]⟩ : ByteArray)) ++ atT (txOf e) 1 ++ nlS = s ++ formT h e := by simp only [formT, ByteArray.append_assoc]
  refine fn_ok T Tryz.func92 (by kernel_rfl) rfl rfl rfl rfl fun C hC => ?_
  repeat' first
    | refine g_go T hC true 400 rfl rfl ?_
    | refine g_cond rfl (fun h => ?_) (fun h => ?_)
    | refine g_end T hC (by kernel_rfl) ?_
    | refine g_splitD (fun h => ?_) (fun h => ?_)
    | refine g_splitG rfl rfl rfl (fun h => ?_) (fun h => ?_)
    | refine g_splitP rfl rfl (fun h => ?_) (fun h => ?_)
    | (refine g_cat hC rfl rfl (by (try simp only [size_app]); omega) rfl rfl ?_)
    | (refine g_append T 103 hC (rows := bytesR _) (rows2 := bytesR _) (rows3 := bytesR (_ ++ _)) (bytes := 1) rfl rfl rfl rfl (SrcS.str (by kernel_rfl)) (app_rows rfl) rfl rfl rfl (by kernel_rfl) (by (try simp only [bytesR_len, size_app]); omega) (by (try simp only [bytesR_len, size_app]); omega) rfl rfl rfl ?_)
    | refine g_callR hC (hP) (nm [103, 104]) rfl rfl (LeSs.refl _) rfl rfl rfl rfl rfl rfl rfl rfl ?_
    | refine g_lit T hC rfl rfl rfl rfl rfl rfl rfl rfl rfl ?_
    | (refine g_append T 105 hC (rows := bytesR (s ++ (h ++ (⟨#[32, 61, 32]⟩ : ByteArray)) ++ atT (txOf e) 1)) (rows2 := bytesR nlS) (rows3 := bytesR (s ++ formT h e)) (bytes := 1) rfl rfl rfl rfl (SrcS.sl (T.es_ok _ _ rfl)) (app_rows hfin) rfl rfl rfl (by kernel_rfl) (by (try simp only [bytesR_len, size_app]); omega) (by (try simp only [bytesR_len, size_app]); omega) rfl rfl rfl ?_)
  exact g_fin ⟨.inl rfl, nm [0, 105], _, rfl, .refl _, ⟨rfl, trivial⟩, rfl, rfl⟩
end Hw.Z
