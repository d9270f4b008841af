/- The engine and the contracts. -/
import Derived.Test.YtkamoncpfogmaaaGreatDoorC7
import Derived.Test.YtkamoncpfogmaaaGreatDoorC4
import Derived.Lib.ItoaMem
import Derived.Test.YtkamoncpfogmaaaGreatDoorProg
import Derived.KernelRfl
import Derived.Shelf.Strconv.Itoa3
import Derived.Test.YtkamoncpfogmaaaGreatDoorC2
import Derived.Test.YtkamoncpfogmaaaGreatDoorC5
import Derived.Test.YtkamoncpfogmaaaGreatDoorC3
import Derived.Test.YtkamoncpfogmaaaGreatDoorE3
import Derived.Shelf.Strings.BuilderK
set_option linter.unusedVariables false
set_option linter.unusedSimpArgs false
namespace Hw.Pa
open Go Go.Proofs Go.Shelf Hw.M

def keyT (t : Tok) : Int × Str × Int := (t.k, t.t, t.n)
def sameT (a b : List Tok) : Bool := decide (a.map keyT = b.map keyT)
end Hw.Pa
namespace Hw.Pa
open Go Go.Proofs Go.Shelf Hw.M

def decB (u : Nat) : Str := ⟨(Lib.decDigits u).toArray⟩
def itoaB (n : Int) : Str := ⟨(Lib.itoa n).toArray⟩
theorem decB_size (u : Nat) : (decB u).size = Lib.nDigits u := by
  rw [← Lib.decDigits_length]; simp [decB, ByteArray.size]
theorem nDigits_le {u : Nat} (h : u < 18446744073709551616) : Lib.nDigits u ≤ 20 := by
  rcases Nat.eq_zero_or_pos u with rfl | h1
  · rw [Lib.nDigits_small (by omega)]; omega
  · have := Lib.numDigits_eq u h1 h
    split at this <;> omega
theorem itoaB_nonneg {n : Int} (h : 0 ≤ n) : itoaB n = decB n.toNat := by simp only [itoaB, Lib.itoa, if_neg (show ¬ n < 0 by omega), decB]
theorem itoaB_neg {n : Int} (h : n < 0) : itoaB n = (⟨#[45]⟩ : Str) ++ decB n.natAbs := by
  simp only [itoaB, Lib.itoa, if_pos h, decB]
  apply ByteArray.ext
  rw [ByteArray.data_append]
  apply Array.toList_inj.1
  simp
theorem callOK {f : FuncId} {fn : Func} (h : Tryz.prog.funcs[f]? = some fn) (h1 : (fn.name == "runtime.NumGoroutine") = false) (h2 : fn.body.isNone = false) : CallOK Tryz.prog f := ⟨fn, h, h1, h2⟩
end Hw.Pa
/- The library's functions at this program: their numbers. -/
namespace Hw.Pa
open Go Go.Proofs Go.Shelf
def laysItoa_ren : Go.Shelf.Ren := ⟨fun | 171 => 59 | 243 => 99 | 246 => 142 | 283 => 162 | 284 => 163 | 285 => 164 | 286 => 165 | 129 => 182 | 317 => 181 | 318 => 183 | 319 => 184 | 320 => 185 | 337 => 192 | 338 => 193 | n => n, fun | 3 => 3 | 9 => 9 | 2 => 2 | 4 => 4 | 171 => 197 | 0 => 0 | 53 => 198 | 37 => 118 | 5 => 5 | 173 => 201 | 212 => 221 | 51 => 222 | 20 => 20 | 213 => 223 | 46 => 194 | 232 => 253 | 233 => 254 | n => n, fun | 17 => 2 | 18 => 6 | 19 => 7 | n => n⟩
theorem laysItoa : Go.Proofs.LaysM.n171 Tryz.prog laysItoa_ren where
  mixed := by kernel_rfl
  f129 := Tryz.func182.trans (congrArg some (by kernel_rfl))
  f171 := Tryz.func59.trans (congrArg some (by kernel_rfl))
  f243 := Tryz.func99.trans (congrArg some (by kernel_rfl))
  f246 := Tryz.func142.trans (congrArg some (by kernel_rfl))
  f283 := Tryz.func162.trans (congrArg some (by kernel_rfl))
  f284 := Tryz.func163.trans (congrArg some (by kernel_rfl))
  f285 := Tryz.func164.trans (congrArg some (by kernel_rfl))
  f286 := Tryz.func165.trans (congrArg some (by kernel_rfl))
  f317 := Tryz.func181.trans (congrArg some (by kernel_rfl))
  f318 := Tryz.func183.trans (congrArg some (by kernel_rfl))
  f319 := Tryz.func184.trans (congrArg some (by kernel_rfl))
  f320 := Tryz.func185.trans (congrArg some (by kernel_rfl))
  f337 := Tryz.func192.trans (congrArg some (by kernel_rfl))
  f338 := Tryz.func193.trans (congrArg some (by kernel_rfl))
  t0 := Tryz.underlying0
  a0 := Tryz.isAgg0
  z0 := Tryz.sizeOf0
  v0 := Tryz.zeroValue0
  t2 := Tryz.underlying2
  a2 := Tryz.isAgg2
  z2 := Tryz.sizeOf2
  v2 := Tryz.zeroValue2
  t3 := Tryz.underlying3
  a3 := Tryz.isAgg3
  z3 := Tryz.sizeOf3
  v3 := Tryz.zeroValue3
  t4 := Tryz.underlying4
  a4 := Tryz.isAgg4
  z4 := Tryz.sizeOf4
  v4 := Tryz.zeroValue4
  t5 := Tryz.underlying5
  a5 := Tryz.isAgg5
  z5 := Tryz.sizeOf5
  v5 := Tryz.zeroValue5
  t9 := Tryz.underlying9
  a9 := Tryz.isAgg9
  z9 := Tryz.sizeOf9
  v9 := Tryz.zeroValue9
  t20 := Tryz.underlying20
  a20 := Tryz.isAgg20
  z20 := Tryz.sizeOf20
  v20 := Tryz.zeroValue20
  t37 := Tryz.underlying118
  a37 := Tryz.isAgg118
  z37 := Tryz.sizeOf118
  v37 := Tryz.zeroValue118
  t46 := Tryz.underlying194
  a46 := Tryz.isAgg194
  z46 := Tryz.sizeOf194
  v46 := Tryz.zeroValue194
  t51 := Tryz.underlying222
  a51 := Tryz.isAgg222
  z51 := Tryz.sizeOf222
  v51 := Tryz.zeroValue222
  t53 := Tryz.underlying198
  a53 := Tryz.isAgg198
  z53 := Tryz.sizeOf198
  v53 := Tryz.zeroValue198
  t171 := Tryz.underlying197
  a171 := Tryz.isAgg197
  z171 := Tryz.sizeOf197
  v171 := Tryz.zeroValue197
  t173 := Tryz.underlying201
  a173 := Tryz.isAgg201
  z173 := Tryz.sizeOf201
  v173 := Tryz.zeroValue201
  t212 := Tryz.underlying221
  a212 := Tryz.isAgg221
  z212 := Tryz.sizeOf221
  v212 := Tryz.zeroValue221
  t213 := Tryz.underlying223
  a213 := Tryz.isAgg223
  z213 := Tryz.sizeOf223
  t232 := Tryz.underlying253
  a232 := Tryz.isAgg253
  z232 := Tryz.sizeOf253
  v232 := Tryz.zeroValue253
  t233 := Tryz.underlying254
  a233 := Tryz.isAgg254
  z233 := Tryz.sizeOf254
  v233 := Tryz.zeroValue254
  g17 := by kernel_rfl
  g18 := by kernel_rfl
  g19 := by kernel_rfl
  i0 := by kernel_rfl
  i2 := by kernel_rfl
  i3 := by kernel_rfl
  i4 := by kernel_rfl
  i5 := by kernel_rfl
  i9 := by kernel_rfl
  i20 := by kernel_rfl
  i37 := by kernel_rfl
  i46 := by kernel_rfl
  i51 := by kernel_rfl
  i53 := by kernel_rfl
  i171 := by kernel_rfl
  i173 := by kernel_rfl
  i212 := by kernel_rfl
  i232 := by kernel_rfl
  i233 := by kernel_rfl
  m17 := by kernel_rfl
  m18 := by kernel_rfl
  m19 := by kernel_rfl
end Hw.Pa
namespace Hw.Pa
open Go Go.Proofs Go.Shelf Hw.M

theorem itoa_ok (n : Int) (h0 : -9223372036854775808 ≤ n) (h1 : n ≤ 9223372036854775807) : FnOK Tryz.prog 59 [I n] [] (Sr (itoaB n)) [] :=
  @fn_belowL _ _ [.int .i64 n] _ (callOK Tryz.func59 (by kernel_rfl) (by kernel_rfl)) (fun w hw => by
    obtain ⟨el, fz, hb⟩ := hw.2.2 _ (List.mem_cons_self ..)
    have htab : Lib.TabIs Tryz.prog w "internal/strconv.uint64pow10" .u64 Lib.pow10Tab := by
      unfold Lib.TabIs World.var?
      rw [show (Tryz.prog).globalNamed "internal/strconv.uint64pow10" = some 2 by kernel_rfl]
      simp only [Option.bind_some]
      rw [hb]
      rfl
    refine (Any.strconv_Itoa laysItoa n h0 h1 w htab).mono ?_
    rintro e w' ⟨he, k, os, rfl⟩
    exact ⟨he, ⟨rfl, rfl, rfl, by show w.heap.size ≤ (w.heap ++ os).size; simp, fun b hb => by show (w.heap ++ os)[b]? = _; rw [Array.getElem?_append_left hb]⟩⟩) rfl
end Hw.Pa
namespace Hw.Pa
open Go Go.Proofs Go.Shelf Hw.M

theorem decDigits_big {u : Nat} (h : ¬ u < 10) : decB u = decB (u / 10) ++ (⟨#[UInt8.ofNat (48 + u % 10)]⟩ : Str) := by
  simp only [decB]
  rw [Lib.decDigits, dif_neg h]
  apply ByteArray.ext
  rw [ByteArray.data_append]
  apply Array.toList_inj.1
  simp
theorem decDigits_one' {u : Nat} (h : u < 10) : decB u = (⟨#[UInt8.ofNat (48 + u)]⟩ : Str) := by
  simp only [decB, Lib.decDigits_one h]
theorem itoaB_size {n : Int} (h0 : -4611686018427387904 ≤ n) (h1 : n ≤ 4611686018427387904) : (itoaB n).size ≤ 21 := by
  by_cases h : n < 0
  · rw [itoaB_neg h, size_app, decB_size]
    have := nDigits_le (u := n.natAbs) (by omega)
    have : ByteArray.size ⟨#[45]⟩ = 1 := rfl
    omega
  · rw [itoaB_nonneg (by omega), decB_size]
    have := nDigits_le (u := n.toNat) (by omega)
    omega
theorem dec01_one {n : Int} (h0 : 0 ≤ n) (h1 : n < 10) : FnOK Tryz.prog 51 [I n] [] (Sr (itoaB n)) [] := by
  have w : IntKind.u8.wrap (IntKind.i64.wrap (48 + n)) = 48 + n := by
    rw [wrap64 (by omega)]
    simp [IntKind.wrap, IntKind.signed, IntKind.bits]; omega
  have hb : itoaB n = (⟨#[UInt8.ofNat (48 + n.toNat)]⟩ : Str) := by rw [itoaB_nonneg h0, decDigits_one' (by omega)]
  have hr : [[PV.k (Value.int IntKind.u8 (48 + n))]] = bytesR (itoaB n) := by
    rw [hb]
    have : (48 + n : Int) = ((UInt8.ofNat (48 + n.toNat)).toNat : Int) := by
      have : (UInt8.ofNat (48 + n.toNat)).toNat = 48 + n.toNat := by simp; omega
      rw [this]; omega
    rw [this]; rfl
  have hs : 0 < (itoaB n).size := by rw [hb]; exact Nat.one_pos
  refine fn_ok T Tryz.func51 (by kernel_rfl) rfl rfl rfl rfl fun C hC => ?_
  repeat' first | refine g_go T hC true 400 rfl rfl ?_ | refine g_cond rfl (fun h => ?_) (fun h => ?_) | (rw [w]) | refine g_lit T hC rfl rfl rfl rfl rfl rfl rfl rfl rfl ?_ | (rw [hr]; refine g_b2sP (s := itoaB n) (e := 5) hC hs rfl (by kernel_rfl) (by kernel_rfl) (by kernel_rfl) rfl rfl ?_)
  all_goals first
    | (exfalso; have := of_decide_eq_false h; omega)
    | exact g_fin ⟨.inl rfl, id, _, rfl, .refl _, trivial, rfl, rfl⟩
theorem dec01_ok : ∀ (k : Nat) (n : Int), n.natAbs < k → 0 ≤ n → n ≤ 4611686018427387904 → FnOK Tryz.prog 51 [I n] [] (Sr (itoaB n)) [] := by
  intro k
  induction k with
  | zero => intro n h; omega
  | succ k ih =>
  intro n hk h0 h1
  by_cases hbig : n < 10
  · exact dec01_one h0 hbig
  have hq : n.tdiv 10 = ((n.toNat / 10 : Nat) : Int) := by
    have e : n = ((n.toNat : Nat) : Int) := by omega
    exact congrArg (·.tdiv 10) e
  have hr : n.tmod 10 = ((n.toNat % 10 : Nat) : Int) := by
    have e : n = ((n.toNat : Nat) : Int) := by omega
    exact congrArg (·.tmod 10) e
  have hI := ih (n.tdiv 10) (by rw [hq]; omega) (by rw [hq]; omega) (by rw [hq]; omega)
  have hJ := dec01_one (n := n.tmod 10) (by rw [hr]; omega) (by rw [hr]; omega)
  have w1 : IntKind.i64.wrap (n.tdiv 10) = n.tdiv 10 := wrap64 (by rw [hq]; omega)
  have e1 : itoaB (n.tdiv 10) ++ itoaB (n.tmod 10) = itoaB n := by
    rw [itoaB_nonneg (n := n) (by omega), itoaB_nonneg (n := n.tdiv 10) (by rw [hq]; omega), itoaB_nonneg (n := n.tmod 10) (by rw [hr]; omega), decDigits_big (u := n.toNat) (by omega), hq, hr]
    congr 1
    rw [show ((n.toNat % 10 : Nat) : Int).toNat = n.toNat % 10 by omega, decDigits_one' (by omega)]
  have hsz := itoaB_size (n := n.tdiv 10) (by rw [hq]; omega) (by rw [hq]; omega)
  have hsz2 := itoaB_size (n := n.tmod 10) (by rw [hr]; omega) (by rw [hr]; omega)
  refine fn_ok T Tryz.func51 (by kernel_rfl) rfl rfl rfl rfl fun C hC => ?_
  repeat' first | refine g_go T hC true 400 rfl rfl ?_ | refine g_cond rfl (fun h => ?_) (fun h => ?_) | (refine g_quo hC rfl rfl (by decide) rfl rfl ?_; rw [w1]) | refine g_call hC (hI) rfl rfl (LeSs.refl _) rfl rfl rfl ?_ | refine g_rem hC rfl rfl (by decide) rfl rfl ?_ | refine g_call hC (hJ) rfl rfl (LeSs.refl _) rfl rfl rfl ?_ | (refine g_cat hC rfl rfl (by omega) rfl rfl ?_)
  all_goals first
    | (exfalso; have := of_decide_eq_true h; omega)
    | skip
  rw [e1]
  exact g_fin ⟨.inl rfl, id, _, rfl, .refl _, trivial, rfl, rfl⟩

end Hw.Pa
namespace Hw.Pa
open Go Go.Proofs Hw.M

def opn (how : Nat) : Str := if how % 3 = 1 then (⟨#[40, 40]⟩ : ByteArray) else if how % 3 = 2 then ⟨#[40, 32, 35, 32, 115, 111, 10]⟩ else (⟨#[40]⟩ : ByteArray)
def cls (how : Nat) : Str := if how % 3 = 1 then (⟨#[41, 41]⟩ : ByteArray) else if how % 3 = 2 then ⟨#[9, 41]⟩ else (⟨#[41]⟩ : ByteArray)
def accC : List Str → Nat → Str → Str
  | [], _, a => a
  | p :: r, i, a => accC r (i + 1) ((if 0 < i then a ++ (⟨#[32, 44]⟩ : ByteArray) else a) ++ p)
def lstC (ps : List Str) : Str := (⟨#[40]⟩ : ByteArray) ++ accC ps 0 (⟨#[]⟩ : ByteArray) ++ (⟨#[41]⟩ : ByteArray)
def ownF (op n : Int) (s : Str) (ps : List Str) : Str :=
  if op = 1 then itoaB n else if op = 2 then (if n = 1 then (⟨#[116, 114, 117, 101]⟩ : ByteArray) else (⟨#[102, 97, 108, 115, 101]⟩ : ByteArray)) else if op = 3 then (⟨#[110, 105, 108]⟩ : ByteArray) else if op = 4 then s else if op = 6 then (⟨#[110, 101, 119, 32]⟩ : ByteArray) ++ s
  else if op = 5 then ps.getD 0 (⟨#[]⟩ : ByteArray) ++ (⟨#[32, 46, 32]⟩ : ByteArray) ++ s else if op = 7 then s ++ (⟨#[32]⟩ : ByteArray) ++ lstC ps else if op = 21 then (⟨#[105, 102]⟩ : ByteArray) ++ lstC ps else if op = 22 then (⟨#[109, 97, 120]⟩ : ByteArray) ++ lstC ps
  else if op = 23 then (⟨#[109, 105, 110]⟩ : ByteArray) ++ lstC ps else if op = 24 then (⟨#[108, 111, 103]⟩ : ByteArray) ++ lstC ps else if op = 18 then (⟨#[110, 111, 116, 32]⟩ : ByteArray) ++ ps.getD 0 (⟨#[]⟩ : ByteArray) else if op = 8 then (⟨#[45]⟩ : ByteArray) ++ ps.getD 0 (⟨#[]⟩ : ByteArray)
  else ps.getD 0 (⟨#[]⟩ : ByteArray) ++ sgnS op ++ ps.getD 1 (⟨#[]⟩ : ByteArray)
mutual
def fullS : Ex → Nat → Str
  | .mk op n s l, how => ownF op n s (partsF l how)
def partsF : List Ex → Nat → List Str
  | [], _ => []
  | x :: r, how => (opn how ++ fullS x (how / 3) ++ cls how) :: partsF r how
end
mutual
def vE : Ex → Bool
  | .mk op n s l => nodeS (.mk op n s l) && vEs l
def vEs : List Ex → Bool
  | [] => true
  | x :: r => vE x && vEs r
end
mutual
theorem vE_of : ∀ (e : Ex) (d : Int), countS e d ≤ 1000 → vE e = true
  | .mk op n s l, d, h => by
    simp only [countS] at h
    split at h
    · omega
    · rename_i hc
      simp only [Bool.or_eq_true, decide_eq_true_eq, Bool.not_eq_true', not_or, Bool.not_eq_false] at hc
      simp only [vE, hc.2, Bool.true_and]
      exact vEs_of l d 1 (by decide) h
theorem vEs_of : ∀ (l : List Ex) (d n : Int), 0 ≤ n → countL l d n ≤ 1000 → vEs l = true
  | [], _, _, _, _ => by simp [vEs]
  | e :: es, d, n, h0, h => by
    simp only [countL] at h
    have hp := (countS_bound e (d + 1)).1
    have hm := countL_mono es d (n + countS e (d + 1))
    split at h
    · omega
    · simp only [vEs, Bool.and_eq_true]
      exact ⟨vE_of e (d + 1) (by omega), vEs_of es d _ (by omega) h⟩
end
theorem partsF_at {l : List Ex} {i : Nat} {x : Ex} (how : Nat) (h : l[i]? = some x) : (partsF l how)[i]? = some (opn how ++ fullS x (how / 3) ++ cls how) := by
  induction l generalizing i with
  | nil => cases h
  | cons y l ih =>
    cases i with
    | zero => simp only [List.getElem?_cons_zero, Option.some.injEq] at h; subst h; simp [partsF]
    | succ i => simp only [List.getElem?_cons_succ] at h; simp only [partsF, List.getElem?_cons_succ]; exact ih h
theorem vEs_at {l : List Ex} {i : Nat} {x : Ex} (h : vEs l = true) (hx : l[i]? = some x) : vE x = true := by
  induction l generalizing i with
  | nil => cases hx
  | cons y l ih =>
    simp only [vEs, Bool.and_eq_true] at h
    cases i with
    | zero => simp only [List.getElem?_cons_zero, Option.some.injEq] at hx; subst hx; exact h.1
    | succ i => simp only [List.getElem?_cons_succ] at hx; exact ih h.2 hx
theorem opn_size (how : Nat) : (opn how).size ≤ 7 := by
  unfold opn; split
  · show 2 ≤ 7; decide
  · split
    · show 7 ≤ 7; decide
    · show 1 ≤ 7; decide
theorem cls_size (how : Nat) : (cls how).size ≤ 2 := by
  unfold cls; split
  · show 2 ≤ 2; decide
  · split
    · show 2 ≤ 2; decide
    · show 1 ≤ 2; decide
def sumS : List Str → Nat
  | [] => 0
  | p :: r => p.size + sumS r
theorem accC_size : ∀ (ps : List Str) (i : Nat) (a : Str), (accC ps i a).size ≤ a.size + sumS ps + 2 * ps.length
  | [], i, a => by simp [accC, sumS]
  | p :: r, i, a => by
    have h := accC_size r (i + 1) ((if 0 < i then a ++ (⟨#[32, 44]⟩ : ByteArray) else a) ++ p)
    have h2 : ((if 0 < i then a ++ (⟨#[32, 44]⟩ : ByteArray) else a) ++ p : Str).size ≤ a.size + 2 + p.size := by
      rw [size_app]
      split
      · rw [size_app]; have : ((⟨#[32, 44]⟩ : ByteArray) : Str).size = 2 := rfl; omega
      · omega
    simp only [accC, sumS, List.length_cons]
    omega
theorem getD_size (ps : List Str) (i : Nat) : (ps.getD i (⟨#[]⟩ : ByteArray)).size ≤ sumS ps := by
  induction ps generalizing i with
  | nil => simp [sumS]; rfl
  | cons p r ih =>
    cases i with
    | zero => simp only [List.getD_cons_zero, sumS]; omega
    | succ i => simp only [List.getD_cons_succ, sumS]; have := ih i; omega
theorem get2_size (ps : List Str) : (ps.getD 0 (⟨#[]⟩ : ByteArray)).size + (ps.getD 1 (⟨#[]⟩ : ByteArray)).size ≤ sumS ps := by
  cases ps with
  | nil => simp [sumS]; rfl
  | cons p r =>
    simp only [List.getD_cons_zero, List.getD_cons_succ, sumS]
    have := getD_size r 0
    omega
end Hw.Pa
namespace Hw.Pa
open Go Go.Proofs Go.Shelf Hw.M

def okAt (n i : Nat) (t : Tok) : Bool := validF t && !(decide (t.k = 5) && decide ((i : Int) < (n : Int) - 1))
def okJ (l : List Tok) : Prop := ∀ i t, l[i]? = some t → okAt l.length i t = true
def txtS (t : Tok) : Str := if t.k = 2 then itoaB t.n else t.t
def accJ : List Tok → Nat → Str → Str
  | [], _, a => a
  | t :: r, i, a => if t.k = 5 then a else accJ r (i + 1) (a ++ (if 0 < i then (⟨#[32]⟩ : ByteArray) else (⟨#[]⟩ : ByteArray)) ++ txtS t)
def preJ (i : Nat) (a : Str) : Str := a ++ (if 0 < i then (⟨#[32]⟩ : ByteArray) else (⟨#[]⟩ : ByteArray))
theorem app_nil (a : Str) : a ++ ((⟨#[]⟩ : ByteArray) : Str) = a := by
  apply ByteArray.ext
  rw [ByteArray.data_append]
  simp
theorem accJ_cons (t : Tok) (r : List Tok) (i : Nat) (a : Str) : accJ (t :: r) i a = if t.k = 5 then a else accJ r (i + 1) (a ++ (if 0 < i then (⟨#[32]⟩ : ByteArray) else (⟨#[]⟩ : ByteArray)) ++ txtS t) := rfl
theorem accJ_size : ∀ (l : List Tok) (i : Nat) (a : Str), a.size ≤ (accJ l i a).size
  | [], _, a => Nat.le_refl _
  | t :: r, i, a => by
    unfold accJ
    split
    · exact Nat.le_refl _
    · refine Nat.le_trans ?_ (accJ_size r (i + 1) _)
      rw [size_app, size_app]; omega
end Hw.Pa
namespace Hw.Pa
open Go Go.Proofs Go.Shelf Hw.M

end Hw.Pa
/- The engine, part BM: strings.Builder: what its functions do to its block and its buffer's, and nothing else. -/
namespace Hw
open Go Go.Proofs Go.Shelf Go.RowKit

def BldAt (T e : TypeId) (b : Nat) (p v : Value) (s : ByteArray) (w : World) : Prop :=
  w.heap[b]? = some (.cells #[p, v] T (0, 0)) ∧ w.ownsRowF 0 e 1 v (Lib.strCells s).length (Lib.strCells s) ∧ v.ownBlock ≠ some b ∧ (s.size = 0 → v = .slice none 0 0)
structure Kp (b : Nat) (v v' : Value) (w w' : World) : Prop where
  block : ∀ c, c < w.heap.size → c ≠ b → v.ownBlock ≠ some c → w'.heap[c]? = w.heap[c]?
  size : w.heap.size ≤ w'.heap.size
  os : w'.os = w.os
  tape : w'.tape = w.tape
  output : w'.output = w.output
  own : ∀ g, v'.ownBlock = some g → w.heap.size ≤ g ∨ v.ownBlock = some g
theorem Kp.refl (b : Nat) (v : Value) (w : World) : Kp b v v w w := ⟨fun _ _ _ _ => rfl, Nat.le_refl _, rfl, rfl, rfl, fun _ h => .inr h⟩
theorem Kp.trans {b : Nat} {v v' v2 : Value} {w w' w2 : World} (h : Kp b v v' w w') (h2 : Kp b v' v2 w' w2) : Kp b v v2 w w2 :=
  ⟨fun c hc hb hv => (h2.block c (Nat.lt_of_lt_of_le hc h.size) hb fun e => (h.own c e).elim (fun h3 => by omega) hv).trans (h.block c hc hb hv), Nat.le_trans h.size h2.size, h2.os.trans h.os, h2.tape.trans h.tape, h2.output.trans h.output,
    fun g hg => (h2.own g hg).elim (fun h3 => .inl (Nat.le_trans h.size h3)) (h.own g)⟩
theorem Kp.set {b : Nat} (v : Value) (w : World) (j : Nat) (u : Value) : Kp b v v w (w.setCell ⟨b, j, none⟩ u) :=
  ⟨fun c _ hb _ => Below.heap_setCell _ _ _ _ hb, by simp [World.setCell], rfl, rfl, rfl, fun _ h => .inr h⟩
theorem Kp.grown {b : Nat} {v v' : Value} {w w' : World} (h : w.grownBy w' v.ownBlock) (hv : ∀ g, v'.ownBlock = some g → w.heap.size ≤ g ∨ v.ownBlock = some g) : Kp b v v' w w' :=
  ⟨fun c hc _ hne => h.block c hc fun e => hne e.symm, h.size, h.os, h.tape, h.output, hv⟩
theorem Kp.alloc (b : Nat) (v : Value) (w : World) (o : Obj) : Kp b v v w (w.alloc o) :=
  ⟨fun c hc _ _ => Lib.alloc_old w o c hc, by simp, rfl, rfl, rfl, fun _ h => .inr h⟩
theorem BldAt.atF {T e : TypeId} {b : Nat} {p v : Value} {s : ByteArray} {w : World} (h : BldAt T e b p v s w) : Lib.BuilderAtF T e 0 b p (Lib.strCells s) w := ⟨Nat.zero_le _, v, h.1, h.2.1, h.2.2.1⟩
theorem BldAt.lt {T e : TypeId} {b : Nat} {p v : Value} {s : ByteArray} {w : World} (h : BldAt T e b p v s w) : b < w.heap.size := h.atF.lt

theorem BldAt.used {T e : TypeId} {b : Nat} {p v : Value} {s : ByteArray} {w : World} (h : BldAt T e b p v s w) (q : Value) : BldAt T e b q v s (w.setCell ⟨b, 0, none⟩ q) := by
  obtain ⟨hb, hown, hne, hn0⟩ := h
  refine ⟨?_, ?_, hne, hn0⟩
  · simp [World.setCell, Array.getElem?_modify, hb]
  · exact hown.kept (row := some b) ⟨rfl, rfl, rfl, by simp [World.setCell], fun k _ hk => Below.heap_setCell _ _ _ _ (fun e => hk (by simp [e]))⟩ (Or.inr hne)
theorem BldAt.put {T e : TypeId} {b : Nat} {p v v' : Value} {s : ByteArray} {w : World} (hb : w.heap[b]? = some (.cells #[p, v] T (0, 0))) (hown : w.ownsRowF 0 e 1 v' (Lib.strCells s).length (Lib.strCells s)) (hTe : T ≠ e) (hn0 : s.size = 0 → v' = .slice none 0 0) :
    BldAt T e b p v' s (w.setCell ⟨b, 1, none⟩ v') := by
  have hne := Lib.ownBlock_neF hown hb hTe
  refine ⟨?_, ?_, hne, hn0⟩
  · simp [World.setCell, Array.getElem?_modify, hb]
  · exact hown.kept (row := some b) ⟨rfl, rfl, rfl, by simp [World.setCell], fun k _ hk => Below.heap_setCell _ _ _ _ (fun e => hk (by simp [e]))⟩ (Or.inr hne)

theorem app_strX {P : Program} (w : World) (t u ty e : TypeId) (i : TypeInfo) (ht : P.underlying t = some (.slice e)) (hu : P.underlying u = some .string) (hi : P.info? e = some i) (hz : i.zero = some (.int .u8 0))
    (hsize : i.size = 1) (hby : i.bytes = 1) (v : Value) (n : Nat) (xs : List Value) (hown : w.ownsRowF 0 e 1 v n xs) (s : ByteArray) (h63 : n + s.size ≤ maxLen) (hbytes : n + s.size ≤ 140737488355328) :
    ∃ v' w', (Builtin.append_ #[t, u] ty #[v, .string s]).run P w = .ok v' w' ∧ w'.ownsRowF 0 e 1 v' (n + s.size) (xs ++ Lib.strCells s) ∧ w.grownBy w' v.ownBlock ∧ (∀ g, v'.ownBlock = some g → w.heap.size ≤ g ∨ v.ownBlock = some g) ∧ (v = .slice none 0 0 → s.size = 0 → v' = .slice none 0 0) := by
  obtain ⟨v', w', r1, r2, r3, r4⟩ := Lib.run_append_own_stringF (P := P) w 0 t u ty e i ht hu hi hz hsize hby v n xs hown s h63 hbytes (Nat.zero_le _)
  refine ⟨v', w', r1, r2, r3, ?_, fun x y => r4.2 ⟨x, y⟩⟩
  rcases hown.2 with ⟨rfl, rfl⟩ | ⟨g, cap, cur, fz, rfl, hbg, hg, hfz, hnc, hcm, hcs, htake⟩
  · obtain ⟨v2, w2, q1, q2, _⟩ := Lib.run_append_own_stringF (P := P) w w.heap.size t u ty e i ht hu hi hz hsize hby _ 0 xs ⟨hown.1, .inl ⟨rfl, rfl⟩⟩ s h63 hbytes (Nat.le_refl _)
    rw [r1] at q1
    simp only [Result.ok.injEq] at q1
    obtain ⟨rfl, rfl⟩ := q1
    exact fun g hg => .inl (q2.lt g hg).1
  · by_cases hroom : n + s.size ≤ cap
    · have hr := Lib.run_append_room_stringF (P := P) w t u ty e i ht hu hi hsize g n cap cur fz hg (by simpa using hfz) s hroom (by omega)
      rw [r1] at hr
      simp only [Result.ok.injEq] at hr
      obtain ⟨rfl, _⟩ := hr
      exact fun g' hg' => .inr hg'
    · have hr := Lib.run_append_grow_string (P := P) w t u ty e i (.int .u8 0) ht hu hi hz ⟨g, 0, none⟩ n cap xs (by rw [hsize]; simpa using hown.1) (hown.cells (g := g) rfl) s (by omega) (by simp only [maxLen] at h63; omega) (by rw [hby]; exact growslice_fits (by omega) (by omega))
      rw [r1] at hr
      simp only [Result.ok.injEq] at hr
      obtain ⟨rfl, _⟩ := hr
      intro g' hg'
      simp only [Value.ownBlock, Option.some.injEq] at hg'
      exact .inl (by omega)
theorem app_slX {P : Program} (w : World) (t ty e : TypeId) (i : TypeInfo) (ht : P.underlying t = some (.slice e)) (hi : P.info? e = some i) (hz : i.zero = some (.int .u8 0))
    (hsize : i.size = 1) (hby : i.bytes = 1) (v : Value) (n : Nat) (xs : List Value) (hown : w.ownsRowF 0 e 1 v n xs) (a : Addr) (m c : Nat) (news : List Value) (hl : news.length = m * 1) (hnews : ∀ j u, news[j]? = some u → w.cell? (a.add j) = some u) (h1 : ∀ u ∈ news, u.oneCell' = true)
    (h63 : n + m ≤ maxLen) (hbytes : n + m ≤ 140737488355328) :
    ∃ v' w', (Builtin.append_ #[t, t] ty #[v, .slice (some a) m c]).run P w = .ok v' w' ∧ w'.ownsRowF 0 e 1 v' (n + m) (xs ++ news) ∧ w.grownBy w' v.ownBlock ∧ (∀ g, v'.ownBlock = some g → w.heap.size ≤ g ∨ v.ownBlock = some g) ∧ True := by
  obtain ⟨v', w', r1, r2, r3, r4⟩ := run_append_ownF (P := P) w 0 t ty e i (.int .u8 0) 1 1 ht hi hz hsize hby rfl (by decide) v n xs hown a m c news hl hnews h1 h63 (by omega) (Nat.zero_le _)
  refine ⟨v', w', r1, r2, r3, ?_, trivial⟩
  rcases hown.2 with ⟨rfl, rfl⟩ | ⟨g, cap, cur, fz, rfl, hbg, hg, hfz, hnc, hcm, hcs, htake⟩
  · obtain ⟨v2, w2, q1, q2, _⟩ := run_append_ownF (P := P) w w.heap.size t ty e i (.int .u8 0) 1 1 ht hi hz hsize hby rfl (by decide) _ 0 xs ⟨hown.1, .inl ⟨rfl, rfl⟩⟩ a m c news hl hnews h1 h63 (by omega) (Nat.le_refl _)
    rw [r1] at q1
    simp only [Result.ok.injEq] at q1
    obtain ⟨rfl, rfl⟩ := q1
    exact fun g hg => .inl (q2.lt g hg).1
  · by_cases hroom : n + m ≤ cap
    · have hr := run_append_roomF (P := P) w t ty e i ht hi g n cap cur fz hg (by rw [hsize]; exact hfz) a m c news (by rw [hsize]; exact hl) hnews h1 hroom (by rw [hsize, hl, hcs]; omega)
      rw [r1] at hr
      simp only [Result.ok.injEq] at hr
      obtain ⟨rfl, _⟩ := hr
      exact fun g' hg' => .inr hg'
    · have hr := run_append_grow (P := P) w t ty e i (.int .u8 0) ht hi hz ⟨g, 0, none⟩ n cap xs (by rw [hsize]; exact hown.1) (hown.cells (g := g) rfl) a m c news (by rw [hsize]; exact hl) hnews (by omega) (by simp only [maxLen] at h63; omega) (by rw [hby]; exact growslice_fits (by omega) (by omega))
      rw [r1] at hr
      simp only [Result.ok.injEq] at hr
      obtain ⟨rfl, _⟩ := hr
      intro g' hg'
      simp only [Value.ownBlock, Option.some.injEq] at hg'
      exact .inl (by omega)

section
variable {P : Program} {ρ : Ren}
structure BldL (P : Program) (ρ : Ren) : Prop extends Lays.n169 P ρ where
  f166 : P.funcs[ρ.f 166]? = some (Body.n166 ρ)
  e240 : ∀ args w, (callFunc (ρ.f 240) args).run P w = .ok (.enter (ρ.f 240) args) w
  chk : ∀ {b : Nat} {p v : Value} {s : ByteArray} {w : World}, (p = .pointer none ∨ p = .pointer (some ⟨b, 0, none⟩)) → BldAt (ρ.t 72) (ρ.t 5) b p v s w →
    Calls P (ρ.f 240) #[.pointer (some ⟨b, 0, none⟩)] w fun e w' => e = .returned (.tuple #[]) ∧ BldAt (ρ.t 72) (ρ.t 5) b (.pointer (some ⟨b, 0, none⟩)) v s w' ∧ Kp b v v w w'
  t4 : P.underlying (ρ.t 4) = some (TypeDesc.bool)
  a4 : ∀ w, (isAgg (ρ.t 4)).run P w = .ok false w
  z4 : ∀ w, (Go.sizeOf (ρ.t 4)).run P w = .ok 1 w
  v4 : ∀ w, (zeroValue (ρ.t 4)).run P w = .ok (Value.bool false) w
  t164 : P.underlying (ρ.t 164) = some (TypeDesc.unsafePointer)
  a164 : ∀ w, (isAgg (ρ.t 164)).run P w = .ok false w
  z164 : ∀ w, (Go.sizeOf (ρ.t 164)).run P w = .ok 1 w
  v164 : ∀ w, (zeroValue (ρ.t 164)).run P w = .ok (Value.pointer none) w

theorem wp_app_str (w : World) {ops : Array Oper} {rest : List Oper} {o : Oper} {a : Act} {Q : Exit → Act → World → Prop} (hgd : o.guard = none) (sl x : Operand) (t u : TypeId)
    (ho : o.op = .call { callee := .builtin .append, args := #[sl, x], argTypes := #[t, u] }) (e : TypeId) (i : TypeInfo) (ht : P.underlying t = some (.slice e)) (hu : P.underlying u = some .string) (hi : P.info? e = some i) (hz : i.zero = some (.int .u8 0))
    (hsize : i.size = 1) (hby : i.bytes = 1) (v : Value) (n : Nat) (xs : List Value) (hs : a.eval sl = v) (hown : w.ownsRowF 0 e 1 v n xs) (s : ByteArray) (hx : a.eval x = .string s) (h63 : n + s.size ≤ maxLen) (hbytes : n + s.size ≤ 140737488355328)
    (h : ∀ v' w', w'.ownsRowF 0 e 1 v' (n + s.size) (xs ++ Lib.strCells s) → w.grownBy w' v.ownBlock → (∀ g, v'.ownBlock = some g → w.heap.size ≤ g ∨ v.ownBlock = some g) → (v = .slice none 0 0 → s.size = 0 → v' = .slice none 0 0) → wpList P ops Q rest (a.put o.dst v') w') : wpList P ops Q (o :: rest) a w := by
  refine wpList_plain hgd fun K hK => ?_
  obtain ⟨v', w', hr, h2, h3, h4, h5⟩ := app_strX (P := P) w t u o.type e i ht hu hi hz hsize hby v n xs hown s h63 hbytes
  unfold Oper.wp execOp
  simp only [ho, resolve, invoke, builtin, Sem.run_bind, Sem.run_pure, Result.andThen_ok, List.map_toArray, List.map_cons, List.map_nil, hs, hx, hr]
  exact hK _ _ (h v' w' h2 h3 h4 h5)
theorem wp_app_sl (w : World) {ops : Array Oper} {rest : List Oper} {o : Oper} {a : Act} {Q : Exit → Act → World → Prop} (hgd : o.guard = none) (sl x : Operand) (t : TypeId)
    (ho : o.op = .call { callee := .builtin .append, args := #[sl, x], argTypes := #[t, t] }) (e : TypeId) (i : TypeInfo) (ht : P.underlying t = some (.slice e)) (hi : P.info? e = some i) (hz : i.zero = some (.int .u8 0))
    (hsize : i.size = 1) (hby : i.bytes = 1) (v : Value) (n : Nat) (xs : List Value) (hs : a.eval sl = v) (hown : w.ownsRowF 0 e 1 v n xs) (ad : Addr) (m c : Nat) (news : List Value) (hx : a.eval x = .slice (some ad) m c) (hl : news.length = m * 1)
    (hnews : ∀ j u, news[j]? = some u → w.cell? (ad.add j) = some u) (h1 : ∀ u ∈ news, u.oneCell' = true) (h63 : n + m ≤ maxLen) (hbytes : n + m ≤ 140737488355328)
    (h : ∀ v' w', w'.ownsRowF 0 e 1 v' (n + m) (xs ++ news) → w.grownBy w' v.ownBlock → (∀ g, v'.ownBlock = some g → w.heap.size ≤ g ∨ v.ownBlock = some g) → wpList P ops Q rest (a.put o.dst v') w') : wpList P ops Q (o :: rest) a w := by
  refine wpList_plain hgd fun K hK => ?_
  obtain ⟨v', w', hr, h2, h3, h4, _⟩ := app_slX (P := P) w t o.type e i ht hi hz hsize hby v n xs hown ad m c news hl hnews h1 h63 hbytes
  unfold Oper.wp execOp
  simp only [ho, resolve, invoke, builtin, Sem.run_bind, Sem.run_pure, Result.andThen_ok, List.map_toArray, List.map_cons, List.map_nil, hs, hx, hr]
  exact hK _ _ (h v' w' h2 h3 h4)

theorem app0 {s t : ByteArray} (h : (s ++ t).size = 0) : s.size = 0 ∧ t.size = 0 := by rw [size_app] at h; omega
theorem strCells_app (s t : ByteArray) : Lib.strCells (s ++ t) = Lib.strCells s ++ Lib.strCells t := by
  simp [Lib.strCells, ByteArray.data_append]

set_option maxHeartbeats 2000000 in
set_option maxRecDepth 100000 in
theorem bld_ws (L : BldL P ρ) (X : Builder.Extra P ρ) {b : Nat} {p v : Value} {s : ByteArray} {w : World} (hp : p = .pointer none ∨ p = .pointer (some ⟨b, 0, none⟩)) (h : BldAt (ρ.t 72) (ρ.t 5) b p v s w) (t : ByteArray) (hlen : s.size + t.size ≤ 140737488355328) :
    Calls P (ρ.f 166) #[.pointer (some ⟨b, 0, none⟩), .string t] w fun e w' => e = .returned (.tuple #[.int .i64 t.size, .nilIface]) ∧ ∃ v', BldAt (ρ.t 72) (ρ.t 5) b (.pointer (some ⟨b, 0, none⟩)) v' (s ++ t) w' ∧ Kp b v v' w w' := by
  obtain ⟨i0, hi, hz0, hz1, hz2⟩ := info_parts X.infoByte
  have mixed := L.mixed
  have t72 := L.t72; have a72 := L.a72; have z72 := L.z72; have v72 := L.v72; have u72 := run_underlying L.t72
  have t70 := L.t70; have a70 := L.a70; have z70 := L.z70; have v70 := L.v70; have u70 := run_underlying L.t70
  have t37 := L.t37; have a37 := L.a37; have z37 := L.z37; have v37 := L.v37; have u37 := run_underlying L.t37
  have t3 := L.t3; have a3 := L.a3; have z3 := L.z3; have v3 := L.v3; have u3 := run_underlying L.t3
  have t9 := L.t9; have a9 := L.a9; have z9 := L.z9; have v9 := L.v9; have u9 := run_underlying L.t9
  have t4 := L.t4; have a4 := L.a4; have z4 := L.z4; have v4 := L.v4; have u4 := run_underlying L.t4
  have t164 := L.t164; have a164 := L.a164; have z164 := L.z164; have v164 := L.v164; have u164 := run_underlying L.t164
  have t5 := X.t5; have a5 := X.a5; have z5 := X.z5; have v5 := X.v5; have u5 := run_underlying X.t5
  have e240 := L.e240
  go_enter L.f166, Body.n166_ntmps ρ
  go_wp2_with (go_at_fn (ρ.f 240); refine (L.chk hp h).mono ?_)
  rintro e w1 ⟨rfl, h1, k1⟩
  have hlt := h1.lt
  obtain ⟨hbk, hown, hne, hn0⟩ := h1
  have c0 : w1.cell? ⟨b, 0, none⟩ = some (.pointer (some ⟨b, 0, none⟩)) := by rw [Lib.cell_of_heap hbk]; rfl
  have c1 : w1.cell? ⟨b, 1, none⟩ = some v := by rw [Lib.cell_of_heap hbk]; rfl
  go_wp2_with (at_builtin; refine wp_app_str _ rfl _ _ (ρ.t 37) (ρ.t 9) rfl (ρ.t 5) i0 L.t37 L.t9 hi hz0 hz1 hz2 _ _ _ rfl hown t rfl ?c3 ?c4 ?_)
  case c3 => unfold maxLen; rw [Lib.strCells_length]; omega
  case c4 => rw [Lib.strCells_length]; omega
  intro v' w2 hown' hgrow hv' hv0
  have hb2 : w2.heap[b]? = some (.cells #[.pointer (some ⟨b, 0, none⟩), v] (ρ.t 72) (0, 0)) := by
    rw [hgrow.block b hlt (fun e => hne e.symm)]
    exact hbk
  have d0 : w2.cell? ⟨b, 0, none⟩ = some (.pointer (some ⟨b, 0, none⟩)) := by rw [Lib.cell_of_heap hb2]; rfl
  have d1 : w2.cell? ⟨b, 1, none⟩ = some v := by rw [Lib.cell_of_heap hb2]; rfl
  have f1 : w2.frozen? ⟨b, 1, none⟩ = false := Lib.frozen_of_heap hb2 1
  have k2 : Kp b v v' w1 w2 := Kp.grown hgrow hv'
  obtain ⟨ao, n', cap, rfl⟩ : ∃ ao n' cap, v' = .slice ao n' cap := by
    rcases hown'.2 with ⟨hv, _⟩ | ⟨g, cap, cur, fz, hv, _⟩
    · exact ⟨_, _, _, hv⟩
    · exact ⟨_, _, _, hv⟩
  go_wp2
  go_ret2
  refine ⟨rfl, _, BldAt.put hb2 (s := s ++ t) ?_ X.neB5 (fun h0 => hv0 (hn0 (app0 h0).1) (ByteArray.size_eq_zero_iff.1 (app0 h0).2)), (k1.trans k2).trans (Kp.set _ _ _ _)⟩
  rw [strCells_app, List.length_append, Lib.strCells_length t]
  exact hown'

set_option maxHeartbeats 2000000 in
set_option maxRecDepth 100000 in
theorem bld_wb (L : BldL P ρ) (f167 : P.funcs[ρ.f 167]? = some (Body.n167 ρ)) (X : Builder.Extra P ρ) {b : Nat} {p v : Value} {s : ByteArray} {w : World} (hp : p = .pointer none ∨ p = .pointer (some ⟨b, 0, none⟩)) (h : BldAt (ρ.t 72) (ρ.t 5) b p v s w) (c : UInt8) (hlen : s.size + 1 ≤ 140737488355328) :
    Calls P (ρ.f 167) #[.pointer (some ⟨b, 0, none⟩), .int .u8 c.toNat] w fun e w' => e = .returned .nilIface ∧ ∃ v', BldAt (ρ.t 72) (ρ.t 5) b (.pointer (some ⟨b, 0, none⟩)) v' (s ++ ⟨#[c]⟩) w' ∧ Kp b v v' w w' := by
  obtain ⟨i0, hi, hz0, hz1, hz2⟩ := info_parts X.infoByte
  have mixed := L.mixed
  have t72 := L.t72; have a72 := L.a72; have z72 := L.z72; have v72 := L.v72; have u72 := run_underlying L.t72
  have t70 := L.t70; have a70 := L.a70; have z70 := L.z70; have v70 := L.v70; have u70 := run_underlying L.t70
  have t5 := X.t5; have a5 := X.a5; have z5 := X.z5; have v5 := X.v5; have u5 := run_underlying X.t5
  have t37 := L.t37; have a37 := L.a37; have z37 := L.z37; have v37 := L.v37; have u37 := run_underlying L.t37
  have t9 := L.t9; have a9 := L.a9; have z9 := L.z9; have v9 := L.v9; have u9 := run_underlying L.t9
  have t4 := L.t4; have a4 := L.a4; have z4 := L.z4; have v4 := L.v4; have u4 := run_underlying L.t4
  have t164 := L.t164; have a164 := L.a164; have z164 := L.z164; have v164 := L.v164; have u164 := run_underlying L.t164
  have e240 := L.e240
  go_enter f167, Body.n167_ntmps ρ
  go_wp2_with (go_at_fn (ρ.f 240); refine (L.chk hp h).mono ?_)
  rintro e w1 ⟨rfl, h1, k1⟩
  have hlt := h1.lt
  obtain ⟨hbk, hown, hne, hn0⟩ := h1
  have c0 : w1.cell? ⟨b, 0, none⟩ = some (.pointer (some ⟨b, 0, none⟩)) := by rw [Lib.cell_of_heap hbk]; rfl
  have c1 : w1.cell? ⟨b, 1, none⟩ = some v := by rw [Lib.cell_of_heap hbk]; rfl
  go_wp2_with (at_builtin; refine wp_app_sl _ rfl _ _ (ρ.t 37) rfl (ρ.t 5) i0 L.t37 hi hz0 hz1 hz2 _ _ _ rfl (hown.alloc _) ⟨w1.heap.size, 0, none⟩ 1 1 [.int .u8 c.toNat] rfl rfl ?c1 ?c2 ?c3 ?c4 ?_)
  case c1 =>
    intro j u hj
    match j, hj with
    | 0, hj => simp at hj; subst hj; simp [Addr.add]
  case c2 => intro u hu; simp at hu; subst hu; rfl
  case c3 => unfold maxLen; rw [Lib.strCells_length]; omega
  case c4 => rw [Lib.strCells_length]; omega
  intro v' w2 hown' hgrow hv'
  have hb2 : w2.heap[b]? = some (.cells #[.pointer (some ⟨b, 0, none⟩), v] (ρ.t 72) (0, 0)) := by
    rw [hgrow.block b (by simp; omega) (fun e => hne e.symm), Lib.alloc_old w1 _ b hlt]
    exact hbk
  have d0 : w2.cell? ⟨b, 0, none⟩ = some (.pointer (some ⟨b, 0, none⟩)) := by rw [Lib.cell_of_heap hb2]; rfl
  have d1 : w2.cell? ⟨b, 1, none⟩ = some v := by rw [Lib.cell_of_heap hb2]; rfl
  have f1 : w2.frozen? ⟨b, 1, none⟩ = false := Lib.frozen_of_heap hb2 1
  have k2 := (Kp.alloc b v w1 _).trans (Kp.grown (b := b) hgrow (fun g hg => (hv' g hg).imp (fun h => by simpa using h) id))
  obtain ⟨ao, n', cap, rfl⟩ : ∃ ao n' cap, v' = .slice ao n' cap := by
    rcases hown'.2 with ⟨hv, _⟩ | ⟨g, cap, cur, fz, hv, _⟩
    · exact ⟨_, _, _, hv⟩
    · exact ⟨_, _, _, hv⟩
  go_wp2
  go_ret
  refine ⟨rfl, _, BldAt.put hb2 (s := s ++ ⟨#[c]⟩) ?_ X.neB5 (fun h0 => absurd h0 (by rw [size_app]; exact Nat.succ_ne_zero _)), (k1.trans k2).trans (Kp.set _ _ _ _)⟩
  rw [strCells_app, List.length_append]
  exact hown'
theorem bld_len (l170 : Lays.n170 P ρ) {b : Nat} {p v : Value} {s : ByteArray} {w : World} (hp : p = .pointer none ∨ p = .pointer (some ⟨b, 0, none⟩)) (h : BldAt (ρ.t 72) (ρ.t 5) b p v s w) :
    Calls P (ρ.f 170) #[.pointer (some ⟨b, 0, none⟩)] w fun e w' => e = .returned (.int .i64 s.size) ∧ w' = w := by
  have := Any.Builder_Len_f l170 0 b (Lib.strCells s) w (by
    rcases hp with rfl | rfl
    · exact .inl h.atF
    · exact .inr h.atF)
  rw [Lib.strCells_length] at this
  exact this
theorem Kp.freeze {b g : Nat} {v : Value} (hv : v.ownBlock = some g) (w : World) (n : Nat) : Kp b v v w (w.drew.freeze ⟨g, 0, none⟩ n) := by
  unfold World.freeze
  split
  · exact ⟨fun _ _ _ _ => rfl, Nat.le_refl _, rfl, rfl, rfl, fun _ h => .inr h⟩
  · refine ⟨fun c _ _ hne => ?_, by rw [Array.size_modify]; exact Nat.le_refl _, rfl, rfl, rfl, fun _ h => .inr h⟩
    rw [hv] at hne
    simp only [Array.getElem?_modify]
    rw [if_neg (fun e => hne (by rw [e]))]
    rfl
set_option maxHeartbeats 1000000 in
set_option maxRecDepth 100000 in
theorem bld_str (L : BldL P ρ) (X : Builder.Extra P ρ) {b : Nat} {p v : Value} {s : ByteArray} {w : World} (h : BldAt (ρ.t 72) (ρ.t 5) b p v s w) :
    Calls P (ρ.f 169) #[.pointer (some ⟨b, 0, none⟩)] w fun e w' => e = .returned (.string s) ∧ Kp b v v w w' := by
  obtain ⟨hbk, hown, hne, hn0⟩ := h
  by_cases h0 : s.size = 0
  · have hv := hn0 h0
    subst hv
    have hs : s = ⟨#[]⟩ := ByteArray.size_eq_zero_iff.1 h0
    refine (Any.Builder_String_nil L.ton169 X w.heap.size b p w hbk).mono ?_
    rintro e w' ⟨rfl, hb⟩
    exact ⟨by rw [hs], fun c hc _ _ => hb.block c hc, hb.size, hb.os, hb.tape, hb.output, fun _ h => .inr h⟩
  have hl : s.data.toList ≠ [] := fun e => h0 (by rw [← Lib.strCells_length, Lib.strCells, e]; rfl)
  have hsz : s.data.toList.length = s.size := by rw [Array.length_toList]; rfl
  rw [Lib.strCells_length] at hown
  obtain ⟨g, cap, cur, fz, rfl, hg, hfz, hnc, hcm, hcs, htake⟩ : ∃ g cap cur fz, v = .slice (some ⟨g, 0, none⟩) s.size cap ∧ w.heap[g]? = some (.cells cur (ρ.t 5) fz) ∧ fz.2 ≤ s.size * 1 ∧ s.size ≤ cap ∧ cap ≤ maxLen ∧ cur.size = cap * 1 ∧ cur.toList.take (s.size * 1) = Lib.strCells s := by
    rcases hown.2 with ⟨_, hz⟩ | ⟨g, cap, cur, fz, hv, _, r⟩
    · exact absurd hz h0
    · exact ⟨g, cap, cur, fz, hv, r⟩
  have c1 : w.drew.cell? ⟨b, 1, none⟩ = some (.slice (some ⟨g, 0, none⟩) s.size cap) := by
    have : w.drew.heap[b]? = some (.cells #[p, .slice (some ⟨g, 0, none⟩) s.size cap] (ρ.t 72) (0, 0)) := hbk
    rw [Lib.cell_of_heap this]; rfl
  have hSD : (Builtin.unsafeSliceData_ #[(ρ.t 37)] (ρ.t 127) #[.slice (some ⟨g, 0, none⟩) s.size cap]).run P w.drew = .ok (.pointer (some ⟨g, 0, none⟩)) w.drew :=
    Lib.run_unsafeSliceData_row _ _ _ _ _ _ (by omega)
  have hUS : (Builtin.unsafeString_ #[(ρ.t 127), (ρ.t 3)] (ρ.t 9) #[.pointer (some ⟨g, 0, none⟩), .int .i64 s.size]).run P w.drew = .ok (.string s) (w.drew.freeze ⟨g, 0, none⟩ s.size) := by
    have := Lib.run_unsafeString_row (P := P) w.drew (ρ.t 127) (ρ.t 3) (ρ.t 9) (ρ.t 5) L.t127 X.cellsByte g cur.size (by have hg' : w.drew.heap[g]? = some (.cells cur (ρ.t 5) fz) := hg; simp [World.shape?, hg']) s.data.toList hl (by omega) (by unfold maxLen at hcm; omega) (fun j x hx => by
      have := hown.cells (g := g) rfl j (.int .u8 x.toNat) (by simp [Lib.strCells, hx])
      exact this)
    rw [hsz] at this
    exact this
  have mixed := L.mixed
  have t72 := L.t72; have a72 := L.a72; have z72 := L.z72; have v72 := L.v72; have u72 := run_underlying L.t72
  have t70 := L.t70; have a70 := L.a70; have z70 := L.z70; have v70 := L.v70; have u70 := run_underlying L.t70
  have t37 := L.t37; have a37 := L.a37; have z37 := L.z37; have v37 := L.v37; have u37 := run_underlying L.t37
  have t127 := L.t127; have a127 := L.a127; have z127 := L.z127; have v127 := L.v127; have u127 := run_underlying L.t127
  have t3 := L.t3; have a3 := L.a3; have z3 := L.z3; have v3 := L.v3; have u3 := run_underlying L.t3
  have t9 := L.t9; have a9 := L.a9; have z9 := L.z9; have v9 := L.v9; have u9 := run_underlying L.t9
  have t5 := X.t5; have a5 := X.a5; have z5 := X.z5; have v5 := X.v5; have u5 := run_underlying X.t5
  go_enter L.f169, Body.n169_ntmps ρ
  go_wp2
  go_region_o
  all_goals (go_wp2; go_ret; exact ⟨rfl, Kp.freeze rfl w _⟩)
end

theorem own_blk (v : Value) (h : ∃ (a : Option Addr) (n c : Nat), v = .slice a n c) : blk v = v.ownBlock := by
  obtain ⟨a, n, c, rfl⟩ := h
  cases a <;> rfl
theorem owned_sl {w : World} {e : TypeId} {v : Value} {n : Nat} {xs : List Value} (h : w.ownsRowF 0 e 1 v n xs) : ∃ (a : Option Addr) (n c : Nat), v = .slice a n c := by
  rcases h.2 with ⟨hv, _⟩ | ⟨g, cap, cur, fz, hv, _⟩
  · exact ⟨_, _, _, hv⟩
  · exact ⟨_, _, _, hv⟩
theorem bk_bld {b : Nat} {v : Value} {c : Nat} (hv : ∃ (a : Option Addr) (n c : Nat), v = .slice a n c) : Bk (.tuple [Value.pointer (some ⟨b, 0, none⟩), v].toArray) c ↔ c = b ∨ v.ownBlock = some c := by
  rw [← own_blk v hv]
  constructor
  · rintro ⟨x, hx, hb⟩
    have hx' : x = Value.pointer (some ⟨b, 0, none⟩) ∨ x = v := by simpa using hx
    rcases hx' with rfl | rfl
    · simp only [blk, Option.some.injEq] at hb; exact .inl hb.symm
    · exact .inr hb
  · rintro (rfl | h)
    · exact ⟨Value.pointer (some ⟨c, 0, none⟩), by simp, rfl⟩
    · exact ⟨v, by simp, h⟩

theorem fn_bld {P : Program} {f : FuncId} {T e : TypeId} {b : Nat} {s s' : ByteArray} {av : List Value} {r : Value} (hc : CallOK P f)
    (h : ∀ (p v : Value) (w : World), GOw w → (p = .pointer none ∨ p = .pointer (some ⟨b, 0, none⟩)) → BldAt T e b p v s w → Calls P f (.pointer (some ⟨b, 0, none⟩) :: av).toArray w fun x w' => x = .returned r ∧
      ∃ p' v', (p' = .pointer none ∨ p' = .pointer (some ⟨b, 0, none⟩)) ∧ BldAt T e b p' v' s' w' ∧ Kp b v v' w w')
    {res : S} (hr : ∀ M ρ, RepS M ρ res r) : FnOK P f (.one (.p (.k (.pointer (some ⟨b, 0, none⟩)))) :: av.map fun a => .one (.p (.k a))) [(0, .bld T e b s)] res [(1, .bld T e b s')] := by
  refine ⟨hc, fun M ρ w xs hx ht hI hG => ?_⟩
  match xs, hx with
  | [], hx => simp [RepSs] at hx
  | x :: xs, hx =>
    simp only [RepSs, RepS, RepV, RepPV] at hx
    obtain ⟨⟨rfl, _⟩, hxs⟩ := hx
    obtain rfl := reps_k hxs
    obtain ⟨p, v, h1, hp, hb⟩ := ht.res 0 (.bld T e b s) (by simp [tb, tg])
    have hv := owned_sl hb.2.1
    have hown : ∀ c, Owns (tb [(0, .bld T e b s)]) ρ c ↔ c = b ∨ v.ownBlock = some c := fun c => by
      rw [← bk_bld hv, ← h1]
      constructor
      · rintro ⟨i, r, hi, hbk⟩
        simp only [tb, tg_cons] at hi
        split at hi
        · rename_i e; rw [e]; exact hbk
        · cases hi
      · exact fun hbk => ⟨0, .bld T e b s, by simp [tb, tg], hbk⟩
    refine (h p v w (gow_of hI hG) hp hb).mono fun ex w' ⟨he, p', v', hp', hb', hk⟩ => ?_
    have hv' := owned_sl hb'.2.1
    have w1 : upd ρ 1 (.tuple [Value.pointer (some ⟨b, 0, none⟩), v'].toArray) 1 = .tuple [Value.pointer (some ⟨b, 0, none⟩), v'].toArray := upd_same _ _ _
    have one : ∀ i q, tg (tb [(1, .bld T e b s')]) i = some q → i = 1 ∧ q = .bld T e b s' := fun i q hi => by
      simp only [tb, tg_cons] at hi
      split at hi
      · rename_i e; exact ⟨e.symm, (Option.some.inj hi).symm⟩
      · cases hi
    have mI : ∀ c o u, M c o = some u → c ≠ b ∧ v.ownBlock ≠ some c := fun c o u hu => by
      have hn : ¬ Owns (tb [(0, .bld T e b s)]) ρ c := fun ⟨i, q, hi, hbk⟩ => by rw [ht.own i q c hi hbk o] at hu; cases hu
      rw [hown] at hn
      exact ⟨fun e => hn (.inl e), fun e => hn (.inr e)⟩
    have nowM : ∀ c, c = b ∨ v'.ownBlock = some c → ∀ o, M c o = none := fun c hc o => by
      cases hm : M c o with
      | none => rfl
      | some u =>
        have := mI c o u hm
        have hlt := cell_lt (hI c o u hm)
        rcases hc with rfl | hc
        · exact absurd rfl this.1
        · rcases hk.own c hc with h3 | h3
          · omega
          · exact absurd h3 this.2
    refine ⟨r, M, upd ρ 1 (.tuple [Value.pointer (some ⟨b, 0, none⟩), v'].toArray), he, hr _ _, ⟨fun i q hi => ?_, fun i j ri rj c hi hj hne => ?_, fun i q c hi hc o => ?_⟩, fun c o u hu => ?_, MLe.refl M, fun c o u hu => .inl hu, fun c hc => ?_, fun c hc hn => ?_, hk.size, hk.os, hk.tape, hk.output, fun id hid => ?_⟩
    · obtain ⟨rfl, rfl⟩ := one i q hi
      exact ⟨p', v', w1, hp', hb'⟩
    · exact absurd ((one i ri hi).1.trans (one j rj hj).1.symm) hne
    · obtain ⟨rfl, rfl⟩ := one i q hi
      rw [w1, bk_bld hv'] at hc
      exact nowM c hc o
    · rw [cell_of_heap (hk.block c (cell_lt (hI c o u hu)) (mI c o u hu).1 (mI c o u hu).2)]; exact hI c o u hu
    · obtain ⟨i, q, hi, hbk⟩ := hc
      obtain ⟨rfl, rfl⟩ := one i q hi
      rw [w1, bk_bld hv'] at hbk
      rw [hown]
      rcases hbk with h3 | h3
      · exact .inr (.inl h3)
      · exact (hk.own c h3).imp id .inr
    · rw [hown] at hn
      exact hk.block c hc (fun e => hn (.inl e)) fun e => hn (.inr e)
    · simp only [RL.ids, List.mem_cons, List.mem_nil_iff, or_false] at hid
      subst hid; exact upd_other (by decide)
theorem fn_bldX {P : Program} {f : FuncId} {T e : TypeId} {b : Nat} {s : ByteArray} {r : Value} (hc : CallOK P f)
    (h : ∀ (p v : Value) (w : World), GOw w → (p = .pointer none ∨ p = .pointer (some ⟨b, 0, none⟩)) → BldAt T e b p v s w → Calls P f #[.pointer (some ⟨b, 0, none⟩)] w fun x w' => x = .returned r ∧ Kp b v v w w')
    {res : S} (hr : ∀ M ρ, RepS M ρ res r) : FnOK P f [.one (.p (.k (.pointer (some ⟨b, 0, none⟩))))] [(0, .bld T e b s)] res [] := by
  refine ⟨hc, fun M ρ w xs hx ht hI hG => ?_⟩
  match xs, hx with
  | [], hx => simp [RepSs] at hx
  | _ :: _ :: _, hx => simp [RepSs] at hx
  | [x], hx =>
    simp only [RepSs, RepS, RepV, RepPV] at hx
    obtain ⟨⟨rfl, _⟩, _⟩ := hx
    obtain ⟨p, v, h1, hp, hb⟩ := ht.res 0 (.bld T e b s) (by simp [tb, tg])
    have hv := owned_sl hb.2.1
    have hown : ∀ c, Owns (tb [(0, .bld T e b s)]) ρ c ↔ c = b ∨ v.ownBlock = some c := fun c => by
      rw [← bk_bld hv, ← h1]
      constructor
      · rintro ⟨i, r, hi, hbk⟩
        simp only [tb, tg_cons] at hi
        split at hi
        · rename_i e; rw [e]; exact hbk
        · cases hi
      · exact fun hbk => ⟨0, .bld T e b s, by simp [tb, tg], hbk⟩
    have mI : ∀ c o u, M c o = some u → c ≠ b ∧ v.ownBlock ≠ some c := fun c o u hu => by
      have hn : ¬ Owns (tb [(0, .bld T e b s)]) ρ c := fun ⟨i, q, hi, hbk⟩ => by rw [ht.own i q c hi hbk o] at hu; cases hu
      rw [hown] at hn
      exact ⟨fun e => hn (.inl e), fun e => hn (.inr e)⟩
    refine (h p v w (gow_of hI hG) hp hb).mono fun ex w' ⟨he, hk⟩ => ?_
    refine ⟨r, M, ρ, he, hr _ _, ⟨fun i q hi => (by cases hi), fun i j ri rj c hi => (by cases hi), fun i q c hi => (by cases hi)⟩, fun c o u hu => ?_, MLe.refl M, fun c o u hu => .inl hu, fun c hc => ?_, fun c hc hn => ?_, hk.size, hk.os, hk.tape, hk.output, fun id hid => rfl⟩
    · rw [cell_of_heap (hk.block c (cell_lt (hI c o u hu)) (mI c o u hu).1 (mI c o u hu).2)]; exact hI c o u hu
    · obtain ⟨i, q, hi, _⟩ := hc; cases hi
    · rw [hown] at hn
      exact hk.block c hc (fun e => hn (.inl e)) fun e => hn (.inr e)
abbrev Bp (b : Nat) : S := .one (.p (.k (.pointer (some ⟨b, 0, none⟩))))
section
variable {P : Program} {C : Ctx} {k : List Frm} {n : Nat} {sl : Slots} {tab : Tab} {Q : Exit → St → Prop} {all : Array Oper} {rest : List Oper}
theorem g_newBld {d : Nat} {t ty : TypeId} {ps : String} {af : Array Edge} (hC : C.low) (e : TypeId) (hz : zeroV P t = some [.p (.k (.pointer none)), .p (.k (.slice none 0 0))]) (hd : Nat.blt d n = true) (hf : freshB (1000 + d) ⟨n, sl, tab⟩ = true)
    (g : ∀ b : Nat, Goal P C (.ops all rest none) k n ((d, Bp b) :: sl) ((1000 + d, some (.bld t e b ByteArray.empty)) :: tab) Q) : Goal P C (.ops all (⟨some d, .alloc t, ty, ps, af, none⟩ :: rest) none) k n sl tab Q := by
  refine fun M ρ a w hH => wpList_step fun K hK => ?_
  simp only [Region.wanted, if_true]
  have hfr : Fresh C (1000 + d) ⟨n, sl, tab⟩ := fresh_of hf (hC.none (by omega))
  obtain ⟨zv, hz1, hz2, _⟩ := zeroV_spec hz M ρ w
  have hz4 : zv.cells = #[Value.pointer none, .slice none 0 0] := by
    generalize hL : zv.cells.toList = L at hz2
    match L, hz2 with
    | [], hz2 => simp [RepVs] at hz2
    | [_], hz2 => simp [RepVs] at hz2
    | _ :: _ :: _ :: _, hz2 => simp [RepVs] at hz2
    | [x, y], hz2 =>
      simp only [RepVs, RepV, RepPV] at hz2
      rw [hz2.1.1, hz2.2.1.1] at hL
      rw [← Array.toArray_toList (xs := zv.cells), hL]
  have hrun : (execOp a.eval ⟨some d, .alloc t, ty, ps, af, none⟩).run P w = .ok (.value (.pointer (some ⟨w.heap.size, 0, none⟩))) (w.alloc (.cells zv.cells t)) := by
    simp [execOp, Instr.alloc, newVar, newRow, hz1]
  unfold Oper.wp
  rw [hrun, Oper.upon_value]
  refine hK _ _ (g w.heap.size M _ _ _ (hH.alloc (st := ⟨n, sl, tab⟩) (d := some d) (v := Bp w.heap.size) (id := 1000 + d) (r' := .bld t e w.heap.size ByteArray.empty) (val := .tuple [Value.pointer (some ⟨w.heap.size, 0, none⟩), .slice none 0 0].toArray) (fun b hb => ?_) hfr
    ⟨.pointer none, .slice none 0 0, upd_same _ _ _, .inl rfl, by rw [hz4]; exact heap_push_new w _, ⟨rfl, .inl ⟨rfl, rfl⟩⟩, by simp [Value.ownBlock], fun _ => rfl⟩ ?_ hd))
  · rw [bk_bld ⟨_, _, _, rfl⟩] at hb
    rcases hb with rfl | hb
    · rfl
    · cases hb
  · simp only [RepS, RepV, RepPV]; exact ⟨trivial, rfl⟩
end
end Hw
namespace Hw.Pa
open Go Go.Proofs Go.Shelf Hw.M

def bldR : Go.Shelf.Ren := ⟨fun | 166 => 58 | 167 => 57 | 169 => 61 | 170 => 60 | 240 => 98 | n => n, fun | 75 => 122 | 0 => 0 | 3 => 3 | 4 => 4 | 5 => 5 | 9 => 9 | 37 => 118 | 70 => 117 | 72 => 120 | 127 => 154 | 164 => 184 | n => n, fun n => n⟩
theorem bldX : Builder.Extra Tryz.prog bldR where
  sizeBuilder := by kernel_rfl
  liesBuilder := by kernel_rfl
  t5 := Tryz.underlying5
  a5 := Tryz.isAgg5
  z5 := Tryz.sizeOf5
  v5 := Tryz.zeroValue5
  infoByte := by kernel_rfl
  cellsByte := by kernel_rfl
  sizeByte := by kernel_rfl
  neB5 := by decide
set_option maxHeartbeats 1000000 in
set_option maxRecDepth 100000 in
theorem bld_chk {b : Nat} {p v : Value} {s : ByteArray} {w : World} (hp : p = .pointer none ∨ p = .pointer (some ⟨b, 0, none⟩)) (h : BldAt (bldR.t 72) (bldR.t 5) b p v s w) :
    Calls Tryz.prog (bldR.f 240) #[.pointer (some ⟨b, 0, none⟩)] w fun e w' => e = .returned (.tuple #[]) ∧ BldAt (bldR.t 72) (bldR.t 5) b (.pointer (some ⟨b, 0, none⟩)) v s w' ∧ Kp b v v w w' := by
  obtain ⟨j, hj, hjs⟩ := Option.map_eq_some_iff.1 bldX.sizeBuilder
  rcases hp with rfl | rfl
  · have h0 := h.atF.cell0
    have hsh := h.atF.shape
    have hfz := h.atF.frozen0
    refine Calls.mono (R := fun e w' => e = .returned (.tuple #[]) ∧ w' = w.setCell ⟨b, 0, none⟩ (.pointer (some ⟨b, 0, none⟩))) ?_ ?_
    · go_enter Tryz.func98, Tryz.ntmps98
      go_wp2
      rw [Lib.run_to_unsafe w ⟨b, 0, none⟩ Tryz.underlying117 Tryz.underlying184 hj (by rw [hjs]; decide) hsh (Nat.zero_lt_succ 1)]
      simp only [Result.andThen]
      rw [Oper.upon_value]
      go_wp2
      rw [run_callFunc_extern Tryz.func141 (by kernel_rfl) (by kernel_rfl) (by kernel_rfl) (e := Extern.AbiNoEscape.same) (by kernel_rfl)]
      rw [Lib.run_noEscape]
      simp only [Result.andThen]
      rw [Oper.upon_value]
      go_wp2
      rw [Lib.run_from_unsafe w ⟨b, 0, none⟩ Tryz.underlying184 Tryz.underlying117 hj hsh bldX.liesBuilder]
      simp only [Result.andThen]
      rw [Oper.upon_value]
      go_wp2
      go_end0
      exact ⟨rfl, rfl⟩
    · rintro e w' ⟨rfl, rfl⟩
      exact ⟨rfl, h.used _, Kp.set _ _ _ _⟩
  · have h0 := h.atF.cell0
    refine Calls.mono (R := fun e w' => e = .returned (.tuple #[]) ∧ w' = w) ?_ ?_
    · go_enter Tryz.func98, Tryz.ntmps98
      go_wp2
      rw [Lib.run_neq_ptr_same w _ Tryz.underlying117 hj]
      go_wp2
      go_end0
      exact ⟨rfl, rfl⟩
    · rintro e w' ⟨rfl, rfl⟩
      exact ⟨rfl, h, Kp.refl _ _ _⟩
theorem bldL : BldL Tryz.prog bldR where
  mixed := by kernel_rfl
  f169 := Tryz.func61.trans (congrArg some (by kernel_rfl))
  f166 := Tryz.func58.trans (congrArg some (by kernel_rfl))
  e240 := enters_of Tryz.func98 (by kernel_rfl) rfl
  chk := bld_chk
  t0 := Tryz.underlying0
  a0 := Tryz.isAgg0
  z0 := Tryz.sizeOf0
  v0 := Tryz.zeroValue0
  t3 := Tryz.underlying3
  a3 := Tryz.isAgg3
  z3 := Tryz.sizeOf3
  v3 := Tryz.zeroValue3
  t4 := Tryz.underlying4
  a4 := Tryz.isAgg4
  z4 := Tryz.sizeOf4
  v4 := Tryz.zeroValue4
  t9 := Tryz.underlying9
  a9 := Tryz.isAgg9
  z9 := Tryz.sizeOf9
  v9 := Tryz.zeroValue9
  t37 := Tryz.underlying118
  a37 := Tryz.isAgg118
  z37 := Tryz.sizeOf118
  v37 := Tryz.zeroValue118
  t70 := Tryz.underlying117
  a70 := Tryz.isAgg117
  z70 := Tryz.sizeOf117
  v70 := Tryz.zeroValue117
  t72 := Tryz.underlying120
  a72 := Tryz.isAgg120
  z72 := Tryz.sizeOf120
  v72 := Tryz.zeroValue120
  t127 := Tryz.underlying154
  a127 := Tryz.isAgg154
  z127 := Tryz.sizeOf154
  v127 := Tryz.zeroValue154
  t164 := Tryz.underlying184
  a164 := Tryz.isAgg184
  z164 := Tryz.sizeOf184
  v164 := Tryz.zeroValue184
theorem bf167 : Tryz.prog.funcs[bldR.f 167]? = some (Body.n167 bldR) := Tryz.func57.trans (congrArg some (by kernel_rfl))
theorem bl170 : Lays.n170 Tryz.prog bldR := {
    mixed := by kernel_rfl
    f170 := Tryz.func60.trans (congrArg some (by kernel_rfl))
    t0 := Tryz.underlying0
    a0 := Tryz.isAgg0
    z0 := Tryz.sizeOf0
    v0 := Tryz.zeroValue0
    t3 := Tryz.underlying3
    a3 := Tryz.isAgg3
    z3 := Tryz.sizeOf3
    v3 := Tryz.zeroValue3
    t37 := Tryz.underlying118
    a37 := Tryz.isAgg118
    z37 := Tryz.sizeOf118
    v37 := Tryz.zeroValue118
    t70 := Tryz.underlying117
    a70 := Tryz.isAgg117
    z70 := Tryz.sizeOf117
    v70 := Tryz.zeroValue117
    t72 := Tryz.underlying120
    a72 := Tryz.isAgg120
    z72 := Tryz.sizeOf120
    v72 := Tryz.zeroValue120
  }
abbrev Bd (b : Nat) (s : ByteArray) : Res := .bld 120 5 b s
theorem ws_ok (b : Nat) (s t : Str) (h : s.size + t.size ≤ 140737488355328) : FnOK Tryz.prog 58 [Bp b, Sr t] [(0, Bd b s)] (.tup [I t.size, .one (.p (.k .nilIface))]) [(1, Bd b (s ++ t))] :=
  fn_bld (av := [.string t]) (callOKL Tryz.func58 (by kernel_rfl) (by kernel_rfl)) (fun p v w _ hp hb => (bld_ws bldL bldX hp hb t h).mono fun e w' ⟨he, v', h1, h2⟩ => ⟨he, _, v', .inr rfl, h1, h2⟩)
    fun M ρ => by simp only [RepS]; exact ⟨_, rfl, by simp only [RepSs, RepS, RepV, RepPV]; exact ⟨⟨trivial, rfl⟩, ⟨trivial, rfl⟩, trivial⟩⟩
theorem wb_ok (b : Nat) (s : Str) (c : UInt8) (h : s.size + 1 ≤ 140737488355328) : FnOK Tryz.prog 57 [Bp b, Kk .u8 c.toNat] [(0, Bd b s)] (.one (.p (.k .nilIface))) [(1, Bd b (s ++ ⟨#[c]⟩))] :=
  fn_bld (av := [.int .u8 c.toNat]) (callOKL Tryz.func57 (by kernel_rfl) (by kernel_rfl)) (fun p v w _ hp hb => (bld_wb bldL bf167 bldX hp hb c h).mono fun e w' ⟨he, v', h1, h2⟩ => ⟨he, _, v', .inr rfl, h1, h2⟩)
    fun M ρ => by simp only [RepS, RepV, RepPV]; exact ⟨trivial, rfl⟩
theorem bl_ok (b : Nat) (s : ByteArray) : FnOK Tryz.prog 60 [Bp b] [(0, Bd b s)] (I s.size) [(1, Bd b s)] :=
  fn_bld (av := []) (callOKL Tryz.func60 (by kernel_rfl) (by kernel_rfl)) (fun p v w _ hp hb => (bld_len bl170 hp hb).mono fun e w' ⟨he, h1⟩ => ⟨he, p, v, hp, by rw [h1]; exact hb, by rw [h1]; exact Kp.refl _ _ _⟩)
    fun M ρ => by simp only [RepS, RepV, RepPV]; exact ⟨trivial, rfl⟩
theorem bs_ok (b : Nat) (s : ByteArray) : FnOK Tryz.prog 61 [Bp b] [(0, Bd b s)] (Sr s) [] :=
  fn_bldX (callOKL Tryz.func61 (by kernel_rfl) (by kernel_rfl)) (fun p v w _ _ hb => bld_str bldL bldX hb)
    fun M ρ => by simp only [RepS, RepV, RepPV]; exact ⟨trivial, rfl⟩
end Hw.Pa
namespace Hw.Pa
open Go Go.Proofs Go.Shelf Hw.M

theorem lJoin_yes (l : List Tok) (hl : l.length ≤ 1000000) (hok : okJ l) (hsz : (accJ l 0 (⟨#[]⟩ : ByteArray)).size ≤ 65536) : FnOK Tryz.prog 21 [pS (toksP l)] [] (.tup [Sr (accJ l 0 (⟨#[]⟩ : ByteArray)), I 0]) [] := by
  refine fn_ok T Tryz.func21 (by kernel_rfl) rfl rfl rfl rfl fun C hC => ?_
  repeat' first | refine g_go T hC true 400 rfl rfl ?_ | refine g_cond rfl (fun h => ?_) (fun h => ?_) | refine g_splitG rfl rfl rfl (fun h => ?_) (fun h => ?_) | refine g_splitP rfl rfl (fun h => ?_) (fun h => ?_)
  rw [List.length_map]
  refine g_loop (fun j : Nat => j ≤ l.length) (fun j => ([(0, pS (toksP l)), (9, pS (toksP l)), (10, I l.length), (11, I j)], [])) (fun j => l.length - j) hC
    0 (Nat.zero_le _) id ⟨rfl, ⟨rfl, rfl, rfl, rfl, trivial⟩, trivial, rfl, fun _ _ => rfl⟩ ?_
  intro j hj
  refine g_run' T hC true 200 rfl ?_
  refine g_cond rfl (fun h => ?_) (fun h => ?_)
  · have hlt : j < l.length := by have := of_decide_eq_true h; omega
    clear h
    obtain ⟨u, hu⟩ := exists_at hlt
    have hV := lexValid_ok u
    have hok' := hok j u hu
    have w1 : IntKind.i64.wrap ((l.length : Int) - 1) = (l.length : Int) - 1 := wrap64 (by omega)
    unfold okAt at hok'
    generalize validF u = v at hV hok'
    repeat' first | refine g_go T hC true 400 rfl rfl ?_ | refine g_cond rfl (fun h => ?_) (fun h => ?_) | refine g_splitG rfl rfl rfl (fun h => ?_) (fun h => ?_) | refine g_splitP rfl rfl (fun h => ?_) (fun h => ?_) | refine g_idx T hC rfl rfl rfl (Int.natCast_nonneg _) (map_at (by assumption)) rfl rfl ?_ | refine g_call hC (hV) rfl rfl (LeSs.refl _) rfl rfl rfl ?_ | refine g_outR ?_
    all_goals (try simp only [List.length_map] at *)
    all_goals (try rw [w1] at *)
    all_goals first
      | (rw [wrapS (by omega)]
         exact g_round (j + 1) hlt id (by omega) ⟨rfl, ⟨rfl, rfl, rfl, rfl, trivial⟩, trivial, rfl, fun _ _ => rfl⟩)
      | (exfalso; simp_all; done)
      | (exfalso; simp_all; omega)
  · repeat' first | refine g_go T hC true 400 rfl rfl ?_ | refine g_cond rfl (fun h => ?_) (fun h => ?_) | refine g_splitG rfl rfl rfl (fun h => ?_) (fun h => ?_) | refine g_splitP rfl rfl (fun h => ?_) (fun h => ?_) | refine g_outE ?_ | (refine g_newBld hC 5 (by kernel_rfl) rfl rfl (fun b => ?_))
    rw [List.length_map]
    refine g_loop (fun q : Nat × Str => q.1 ≤ l.length ∧ accJ (l.drop q.1) q.1 q.2 = accJ l 0 (⟨#[]⟩ : ByteArray)) (fun q => ([(32, pS (toksP l)), (33, I l.length), (34, I q.1), (6, Bp b)], [(101, some (Bd b q.2))])) (fun q => l.length - q.1) hC
      (0, (⟨#[]⟩ : ByteArray)) ⟨Nat.zero_le _, rfl⟩ (mvU 101 1006) ⟨rfl, ⟨rfl, rfl, rfl, rfl, trivial⟩, ⟨rfl, trivial⟩, rfl, fun i hi => mvU_low (by omega) hi⟩ ?_
    clear h hj
    rintro ⟨j, a⟩ ⟨hj, ha⟩
    simp only at hj ha
    refine g_run' T hC true 200 rfl ?_
    refine g_cond rfl (fun h => ?_) (fun h => ?_)
    rotate_left
    · have hge : ¬ j < l.length := by have := of_decide_eq_false h; omega
      rw [List.drop_of_length_le (by omega)] at ha
      rw [← ha]
      have hS := bs_ok b a
      repeat' first | refine g_go T hC true 400 rfl rfl ?_ | refine g_cond rfl (fun h => ?_) (fun h => ?_) | refine g_splitG rfl rfl rfl (fun h => ?_) (fun h => ?_) | refine g_splitP rfl rfl (fun h => ?_) (fun h => ?_) | refine g_outE ?_ | refine g_callR hC (hS) (nm [101]) rfl rfl (LeSs.refl _) rfl rfl rfl rfl rfl rfl rfl rfl ?_
      exact g_fin ⟨.inl rfl, id, _, rfl, .refl _, trivial, rfl, rfl⟩
    have hlt : j < l.length := by have := of_decide_eq_true h; omega
    clear h
    obtain ⟨u, hu⟩ := exists_at hlt
    rw [drop_at hu, accJ_cons] at ha
    by_cases h5 : u.k = 5
    · rw [if_pos h5] at ha
      rw [← ha]
      have hS := bs_ok b a
      repeat' first | refine g_go T hC true 400 rfl rfl ?_ | (exfalso; exact absurd h5 (of_decide_eq_false h)) | refine g_cond rfl (fun h => ?_) (fun h => ?_) | refine g_splitG rfl rfl rfl (fun h => ?_) (fun h => ?_) | refine g_splitP rfl rfl (fun h => ?_) (fun h => ?_) | refine g_idx T hC rfl rfl rfl (Int.natCast_nonneg _) (map_at (by assumption)) rfl rfl ?_ | refine g_outE ?_ | refine g_callR hC (hS) (nm [101]) rfl rfl (LeSs.refl _) rfl rfl rfl rfl rfl rfl rfl rfl ?_
      exact g_fin ⟨.inl rfl, id, _, rfl, .refl _, trivial, rfl, rfl⟩
    rw [if_neg h5] at ha
    have hz := accJ_size (l.drop (j + 1)) (j + 1) (a ++ (if 0 < j then (⟨#[32]⟩ : ByteArray) else (⟨#[]⟩ : ByteArray)) ++ txtS u)
    rw [ha, size_app, size_app] at hz
    unfold txtS at hz ha
    have hv := hok j u hu
    unfold okAt validF at hv
    have hb1 : ((⟨#[32]⟩ : ByteArray) : Str).size = 1 := rfl
    have hb0 : ((⟨#[]⟩ : ByteArray) : Str).size = 0 := rfl
    by_cases hk2 : u.k = 2
    · rw [if_pos hk2] at hz ha
      have hn : 0 ≤ u.n ∧ u.n ≤ 1099511627776 := by
        rw [hk2] at hv
        simp at hv
        omega
      have hD := itoa_ok u.n (by omega) (by omega)
      clear hv
      by_cases hj0 : 0 < j
      · rw [if_pos hj0] at hz ha
        rw [hb1] at hz
        have hB := wb_ok b a 32 (by omega)
        have hW := ws_ok b (a ++ (⟨#[32]⟩ : ByteArray)) (itoaB u.n) (by rw [size_app, hb1]; omega)
        have hN := bl_ok b ((a ++ (⟨#[32]⟩ : ByteArray)) ++ itoaB u.n)
        repeat' first | refine g_go T hC true 400 rfl rfl ?_ | (exfalso; have h2 := of_decide_eq_false h; omega) | (exfalso; have h2 := of_decide_eq_true h; omega) | refine g_cond rfl (fun h => ?_) (fun h => ?_) | refine g_splitG rfl rfl rfl (fun h => ?_) (fun h => ?_) | refine g_splitP rfl rfl (fun h => ?_) (fun h => ?_) | refine g_idx T hC rfl rfl rfl (Int.natCast_nonneg _) (map_at (by assumption)) rfl rfl ?_ | refine g_callR hC (hB) (nm [101, 102]) rfl rfl (LeSs.refl _) rfl rfl rfl rfl rfl rfl rfl rfl ?_ | refine g_call hC (hD) rfl rfl (LeSs.refl _) rfl rfl rfl ?_ | refine g_callR hC (hW) (nm [102, 103]) rfl rfl (LeSs.refl _) rfl rfl rfl rfl rfl rfl rfl rfl ?_ | refine g_callR hC (hN) (nm [103, 104]) rfl rfl (LeSs.refl _) rfl rfl rfl rfl rfl rfl rfl rfl ?_ | refine g_outR ?_
        all_goals first
          | (exfalso; have h2 := of_decide_eq_true h; rw [size_app] at h2; (try rw [size_app] at h2); omega)
          | (rw [wrapS (by omega)]
             exact g_round (j + 1, (a ++ (⟨#[32]⟩ : ByteArray)) ++ itoaB u.n) ⟨by simp only; omega, by simpa using ha⟩ (mvU 101 104) (by simp only; omega) ⟨rfl, ⟨rfl, rfl, rfl, rfl, trivial⟩, ⟨rfl, trivial⟩, rfl, fun i hi => mvU_low (by omega) hi⟩)
      · rw [if_neg hj0] at hz ha
        rw [app_nil a] at ha
        have hW := ws_ok b a (itoaB u.n) (by omega)
        have hN := bl_ok b (a ++ itoaB u.n)
        repeat' first | refine g_go T hC true 400 rfl rfl ?_ | (exfalso; have h2 := of_decide_eq_false h; omega) | (exfalso; have h2 := of_decide_eq_true h; omega) | refine g_cond rfl (fun h => ?_) (fun h => ?_) | refine g_splitG rfl rfl rfl (fun h => ?_) (fun h => ?_) | refine g_splitP rfl rfl (fun h => ?_) (fun h => ?_) | refine g_idx T hC rfl rfl rfl (Int.natCast_nonneg _) (map_at (by assumption)) rfl rfl ?_ | refine g_call hC (hD) rfl rfl (LeSs.refl _) rfl rfl rfl ?_ | refine g_callR hC (hW) (nm [101, 102]) rfl rfl (LeSs.refl _) rfl rfl rfl rfl rfl rfl rfl rfl ?_ | refine g_callR hC (hN) (nm [102, 103]) rfl rfl (LeSs.refl _) rfl rfl rfl rfl rfl rfl rfl rfl ?_ | refine g_outR ?_
        all_goals first
          | (exfalso; have h2 := of_decide_eq_true h; rw [size_app] at h2; (try rw [size_app] at h2); omega)
          | (rw [wrapS (by omega)]
             exact g_round (j + 1, a ++ itoaB u.n) ⟨by simp only; omega, by simpa using ha⟩ (mvU 101 103) (by simp only; omega) ⟨rfl, ⟨rfl, rfl, rfl, rfl, trivial⟩, ⟨rfl, trivial⟩, rfl, fun i hi => mvU_low (by omega) hi⟩)
    · rw [if_neg hk2] at hz ha
      clear hv
      by_cases hj0 : 0 < j
      · rw [if_pos hj0] at hz ha
        rw [hb1] at hz
        have hB := wb_ok b a 32 (by omega)
        have hW := ws_ok b (a ++ (⟨#[32]⟩ : ByteArray)) (u.t) (by rw [size_app, hb1]; omega)
        have hN := bl_ok b ((a ++ (⟨#[32]⟩ : ByteArray)) ++ u.t)
        repeat' first | refine g_go T hC true 400 rfl rfl ?_ | (exfalso; have h2 := of_decide_eq_false h; omega) | (exfalso; have h2 := of_decide_eq_true h; omega) | refine g_cond rfl (fun h => ?_) (fun h => ?_) | refine g_splitG rfl rfl rfl (fun h => ?_) (fun h => ?_) | refine g_splitP rfl rfl (fun h => ?_) (fun h => ?_) | refine g_idx T hC rfl rfl rfl (Int.natCast_nonneg _) (map_at (by assumption)) rfl rfl ?_ | refine g_callR hC (hB) (nm [101, 102]) rfl rfl (LeSs.refl _) rfl rfl rfl rfl rfl rfl rfl rfl ?_ | refine g_callR hC (hW) (nm [102, 103]) rfl rfl (LeSs.refl _) rfl rfl rfl rfl rfl rfl rfl rfl ?_ | refine g_callR hC (hN) (nm [103, 104]) rfl rfl (LeSs.refl _) rfl rfl rfl rfl rfl rfl rfl rfl ?_ | refine g_outR ?_
        all_goals first
          | (exfalso; have h2 := of_decide_eq_true h; rw [size_app] at h2; (try rw [size_app] at h2); omega)
          | (rw [wrapS (by omega)]
             exact g_round (j + 1, (a ++ (⟨#[32]⟩ : ByteArray)) ++ u.t) ⟨by simp only; omega, by simpa using ha⟩ (mvU 101 104) (by simp only; omega) ⟨rfl, ⟨rfl, rfl, rfl, rfl, trivial⟩, ⟨rfl, trivial⟩, rfl, fun i hi => mvU_low (by omega) hi⟩)
      · rw [if_neg hj0] at hz ha
        rw [app_nil a] at ha
        have hW := ws_ok b a (u.t) (by omega)
        have hN := bl_ok b (a ++ u.t)
        repeat' first | refine g_go T hC true 400 rfl rfl ?_ | (exfalso; have h2 := of_decide_eq_false h; omega) | (exfalso; have h2 := of_decide_eq_true h; omega) | refine g_cond rfl (fun h => ?_) (fun h => ?_) | refine g_splitG rfl rfl rfl (fun h => ?_) (fun h => ?_) | refine g_splitP rfl rfl (fun h => ?_) (fun h => ?_) | refine g_idx T hC rfl rfl rfl (Int.natCast_nonneg _) (map_at (by assumption)) rfl rfl ?_ | refine g_callR hC (hW) (nm [101, 102]) rfl rfl (LeSs.refl _) rfl rfl rfl rfl rfl rfl rfl rfl ?_ | refine g_callR hC (hN) (nm [102, 103]) rfl rfl (LeSs.refl _) rfl rfl rfl rfl rfl rfl rfl rfl ?_ | refine g_outR ?_
        all_goals first
          | (exfalso; have h2 := of_decide_eq_true h; rw [size_app] at h2; (try rw [size_app] at h2); omega)
          | (rw [wrapS (by omega)]
             exact g_round (j + 1, a ++ u.t) ⟨by simp only; omega, by simpa using ha⟩ (mvU 101 103) (by simp only; omega) ⟨rfl, ⟨rfl, rfl, rfl, rfl, trivial⟩, ⟨rfl, trivial⟩, rfl, fun i hi => mvU_low (by omega) hi⟩)
end Hw.Pa
namespace Hw.Pa
open Go Go.Proofs Hw.M

def validT (t : Tok) : Bool :=
  if t.k = 1 then isName t.t && decide (t.n = 0) else if t.k = 3 then isKeyword t.t && decide (t.n = 0) else if t.k = 4 then (syms.any fun y => decide (y = t.t)) && decide (t.n = 0)
  else if t.k = 2 then decide (t.t = (⟨#[]⟩ : ByteArray)) && decide (0 ≤ t.n) && decide (t.n ≤ 1099511627776) else decide (t.k = 5) && decide (t.t = (⟨#[]⟩ : ByteArray)) && decide (t.n = 0)
def bare (t : Tok) : Int × Str × Int := (t.k, t.t, t.n)
def txtT (t : Tok) : By := if t.k = 2 then lst (itoaB t.n) else lst t.t

theorem natV_append : ∀ (a b : By) (n : Nat), natV (a ++ b) n = natV b (natV a n)
  | [], _, _ => rfl
  | x :: a, b, n => by simp only [List.cons_append, natV]; exact natV_append a b _
theorem dig_byte {d : Nat} (h : d < 10) : (UInt8.ofNat (48 + d)).toNat = 48 + d := by simp [UInt8.toNat_ofNat']; omega
theorem dec_facts : ∀ (k u : Nat), u < k → (Lib.decDigits u).all dB = true ∧ natV (Lib.decDigits u) 0 = u ∧ (∃ c r, Lib.decDigits u = c :: r ∧ (c = 48 → u = 0 ∧ r = [])) := by
  intro k
  induction k with
  | zero => intro u h; omega
  | succ k ih =>
    intro u hu
    by_cases h : u < 10
    · rw [Lib.decDigits_one h]
      have hd := dig_byte h
      refine ⟨?_, ?_, _, _, rfl, fun e => ?_⟩
      · simp only [List.all_cons, List.all_nil, Bool.and_true]; exact dB_iff.2 (by omega)
      · simp only [natV, hd]; omega
      · have := congrArg UInt8.toNat e
        rw [hd] at this
        have h48 : (48 : UInt8).toNat = 48 := rfl
        exact ⟨by omega, rfl⟩
    · have e : Lib.decDigits u = Lib.decDigits (u / 10) ++ [UInt8.ofNat (48 + u % 10)] := by rw [Lib.decDigits, dif_neg h]
      obtain ⟨h1, h2, c, r, h3, h4⟩ := ih (u / 10) (by omega)
      have hd := dig_byte (d := u % 10) (by omega)
      rw [e]
      refine ⟨?_, ?_, c, r ++ [UInt8.ofNat (48 + u % 10)], by rw [h3]; rfl, fun e => ?_⟩
      · rw [List.all_append, h1]; simp only [List.all_cons, List.all_nil, Bool.and_true, Bool.true_and]; exact dB_iff.2 (by omega)
      · rw [natV_append, h2]; simp only [natV, hd]; omega
      · have := (h4 e).1; omega
theorem itoa_bytes {n : Int} (h : 0 ≤ n) : lst (itoaB n) = Lib.decDigits n.toNat := by rw [itoaB_nonneg h]; simp [lst, decB]
theorem dB_wB {b : UInt8} (h : dB b = true) : wB b = true := by
  unfold wB isWord
  unfold dB at h
  simp [h]
theorem word_not {c : UInt8} (h : wB c = true) : blB c = false ∧ c ≠ 35 := by
  have hc := class_word c.toNat
  unfold wB at h
  rw [h] at hc
  refine ⟨decide_eq_false fun e => ?_, fun e => ?_⟩
  · rw [e] at hc; simp at hc
  · subst e; revert h; decide
theorem takeWhile_all {p : UInt8 → Bool} {u r : By} (hu : u.all p = true) (hr : r = [] ∨ ∃ c r', r = c :: r' ∧ p c = false) : (u ++ r).takeWhile p = u := by
  induction u with
  | nil =>
    rcases hr with rfl | ⟨c, r', rfl, hc⟩
    · rfl
    · simp [List.takeWhile_cons, hc]
  | cons x u ih =>
    simp only [List.all_cons, Bool.and_eq_true] at hu
    rw [List.cons_append, List.takeWhile_cons, if_pos hu.1, ih hu.2]
theorem tk_word {u r : By} {t : Int × Str × Int} (hne : u ≠ []) (hu : u.all wB = true) (hr : r = [] ∨ ∃ c r', r = c :: r' ∧ wB c = false) (ht : clsT u = some t) : tk (u ++ r) = some (u.length, some t) := by
  cases u with
  | nil => exact absurd rfl hne
  | cons c u =>
    have hc : wB c = true := by simp only [List.all_cons, Bool.and_eq_true] at hu; exact hu.1
    have htw := takeWhile_all hu hr
    obtain ⟨n1, n2⟩ := word_not hc
    rw [List.cons_append] at htw ⊢
    simp only [tk, n1, Bool.false_eq_true, if_false, if_neg n2, hc, if_true, htw, ht, Option.map_some]
def sepC (c : UInt8) : Bool := !wB c && decide (c ≠ 61) && decide (c ≠ 62)
def Sep (r : By) : Prop := r = [] ∨ ∃ c r', r = c :: r' ∧ sepC c = true
theorem Sep.word {r : By} (h : Sep r) : r = [] ∨ ∃ c r', r = c :: r' ∧ wB c = false := by
  rcases h with h | ⟨c, r', h1, h2⟩
  · exact .inl h
  · refine .inr ⟨c, r', h1, ?_⟩
    simp only [sepC, Bool.and_eq_true, Bool.not_eq_true'] at h2
    exact h2.1.1
theorem kw_words : ∀ y ∈ keywords, (lst y).all wB = true ∧ lst y ≠ [] ∧ (∀ c, (lst y).head? = some c → dB c = false) := by decide +kernel
theorem name_words {s : Str} (h : isName s = true) : (lst s).all wB = true ∧ lst s ≠ [] ∧ isKeyword s = false := by
  simp only [isName, Bool.and_eq_true, Bool.not_eq_true', decide_eq_false_iff_not] at h
  obtain ⟨⟨⟨⟨h1, _⟩, _⟩, h4⟩, h5⟩ := h
  refine ⟨?_, fun e => h1 ?_, h5⟩
  · rw [List.all_eq_true] at h4 ⊢
    intro c hc
    exact h4 _ (List.mem_map.2 ⟨c, hc, rfl⟩)
  · rw [← lst_len, e]; rfl
theorem find_congr {α : Type} {p q : α → Bool} : ∀ {l : List α}, (∀ x ∈ l, p x = q x) → l.find? p = l.find? q
  | [], _ => rfl
  | x :: l, h => by
    rw [List.find?_cons, List.find?_cons, h x (by simp), find_congr fun y hy => h y (by simp [hy])]
theorem symL_two (a b : UInt8) (r : By) : symL (a :: b :: r) = symL [a, b] := find_congr fun y hy => by
  have h2 := (syms_size y hy).2
  rw [← lst_len] at h2
  match lst y, h2 with
  | [], _ => rfl
  | [u], _ => rfl
  | [u, v], _ => rfl
  | _ :: _ :: _ :: _, h2 => simp at h2
theorem sym_alone : ∀ y ∈ syms, symL (lst y) = some y := by decide +kernel
theorem sym_then : ∀ y ∈ syms, ∀ i : Fin 256, UInt8.ofNat i.val ≠ 61 → UInt8.ofNat i.val ≠ 62 → symL ((lst y ++ [UInt8.ofNat i.val]).take 2) = some y := by decide +kernel
theorem sym_cl : ∀ y ∈ syms, (match lst y with | [] => false | c :: _ => !blB c && decide (c ≠ 35) && !wB c) = true := by decide +kernel
theorem symL_sep {y : Str} (hy : y ∈ syms) {r : By} (hr : Sep r) : symL (lst y ++ r) = some y := by
  rcases hr with rfl | ⟨c, r', rfl, hc⟩
  · rw [List.append_nil]; exact sym_alone y hy
  · simp only [sepC, Bool.and_eq_true, decide_eq_true_eq] at hc
    have hci : UInt8.ofNat c.toNat = c := by simp
    have h := sym_then y hy ⟨c.toNat, c.toNat_lt⟩ (by simp only [hci]; exact hc.1.2) (by simp only [hci]; exact hc.2)
    simp only [hci] at h
    have h1 := (syms_size y hy).1
    have h2 := (syms_size y hy).2
    rw [← lst_len] at h1 h2
    match hl : lst y, h1, h2 with
    | [], h1, _ => simp at h1
    | [u], _, _ =>
      rw [hl] at h
      rw [List.cons_append, List.nil_append, symL_two]
      exact h
    | [u, v], _, _ =>
      rw [hl] at h
      rw [List.cons_append, List.cons_append, List.nil_append, symL_two]
      exact h
    | _ :: _ :: _ :: _, _, h2 => simp at h2
theorem tk_sym {y : Str} (hy : y ∈ syms) {r : By} (hr : Sep r) : tk (lst y ++ r) = some ((lst y).length, some (4, y, 0)) := by
  have hs := symL_sep hy hr
  have hc := sym_cl y hy
  match hl : lst y, hc with
  | [], hc => simp at hc
  | c :: u, hc =>
    rw [hl] at hs
    simp only [Bool.and_eq_true, Bool.not_eq_true', decide_eq_true_eq] at hc
    obtain ⟨⟨h1, h2⟩, h3⟩ := hc
    rw [List.cons_append] at hs ⊢
    simp only [tk, h1, Bool.false_eq_true, if_false, if_neg h2, h3, hs, Option.map_some, ← hl, lst_len]
theorem tk_tok {t : Tok} (hv : validT t = true) (h5 : t.k ≠ 5) {r : By} (hr : Sep r) : tk (txtT t ++ r) = some ((txtT t).length, some (bare t)) ∧ txtT t ≠ [] ∧ ∀ b ∈ txtT t, b ≠ 10 := by
  have nl : ∀ {u : By}, u.all wB = true → ∀ b ∈ u, b ≠ 10 := fun {u} h b hb e => by
    rw [List.all_eq_true] at h
    have := h b hb
    subst e; revert this; decide
  unfold validT at hv
  by_cases k1 : t.k = 1
  · rw [if_pos k1] at hv
    simp only [Bool.and_eq_true, decide_eq_true_eq] at hv
    obtain ⟨w1, w2, w3⟩ := name_words hv.1
    have e : txtT t = lst t.t := by simp only [txtT, if_neg (show ¬ t.k = 2 by omega)]
    rw [e]
    refine ⟨tk_word w2 w1 hr.word ?_, w2, nl w1⟩
    unfold clsT bare
    rw [str_lst, if_neg (by simp [w3]), if_pos hv.1, k1, hv.2]
  rw [if_neg k1] at hv
  by_cases k3 : t.k = 3
  · rw [if_pos k3] at hv
    simp only [Bool.and_eq_true, decide_eq_true_eq] at hv
    have hm : t.t ∈ keywords := by
      have := hv.1
      unfold isKeyword at this
      obtain ⟨y, hy, e⟩ := List.any_eq_true.1 this
      rw [← of_decide_eq_true e]; exact hy
    obtain ⟨w1, w2, _⟩ := kw_words _ hm
    have e : txtT t = lst t.t := by simp only [txtT, if_neg (show ¬ t.k = 2 by omega)]
    rw [e]
    refine ⟨tk_word w2 w1 hr.word ?_, w2, nl w1⟩
    unfold clsT bare
    rw [str_lst, if_pos hv.1, k3, hv.2]
  rw [if_neg k3] at hv
  by_cases k4 : t.k = 4
  · rw [if_pos k4] at hv
    simp only [Bool.and_eq_true, decide_eq_true_eq] at hv
    obtain ⟨y, hy, e⟩ := List.any_eq_true.1 hv.1
    have hm : t.t ∈ syms := by rw [← of_decide_eq_true e]; exact hy
    have e : txtT t = lst t.t := by simp only [txtT, if_neg (show ¬ t.k = 2 by omega)]
    rw [e]
    have hs := syms_size _ hm
    refine ⟨?_, fun e => ?_, ?_⟩
    · rw [tk_sym hm hr]; unfold bare; rw [k4, hv.2]
    · rw [← lst_len, e] at hs; simp at hs
    · have : ∀ y ∈ syms, ∀ b ∈ lst y, b ≠ 10 := by decide +kernel
      exact this _ hm
  rw [if_neg k4] at hv
  by_cases k2 : t.k = 2
  · rw [if_pos k2] at hv
    simp only [Bool.and_eq_true, decide_eq_true_eq] at hv
    obtain ⟨⟨ht, hn0⟩, hn1⟩ := hv
    have e : txtT t = Lib.decDigits t.n.toNat := by simp only [txtT, if_pos k2]; exact itoa_bytes hn0
    rw [e]
    obtain ⟨d1, d2, c, u, d3, d4⟩ := dec_facts (t.n.toNat + 1) t.n.toNat (by omega)
    generalize Lib.decDigits t.n.toNat = w at d1 d2 d3
    have w1 : w.all wB = true := by rw [List.all_eq_true] at d1 ⊢; exact fun b hb => dB_wB (d1 b hb)
    have w2 : w ≠ [] := by rw [d3]; simp
    refine ⟨tk_word w2 w1 hr.word ?_, w2, nl w1⟩
    have hdc : dB c = true := by rw [d3] at d1; simp only [List.all_cons, Bool.and_eq_true] at d1; exact d1.1
    have nk : isKeyword (strOf w) = false := by
      cases hk : isKeyword (strOf w) with
      | false => rfl
      | true =>
        exfalso
        unfold isKeyword at hk
        obtain ⟨y, hy, e⟩ := List.any_eq_true.1 hk
        have := (kw_words y hy).2.2 c (by rw [of_decide_eq_true e, lst_str, d3]; rfl)
        rw [hdc] at this; cases this
    have nn : isName (strOf w) = false := by
      cases hk : isName (strOf w) with
      | false => rfl
      | true =>
        exfalso
        simp only [isName, Bool.and_eq_true] at hk
        have h3 := hk.1.1.2
        have hb : bytes (strOf w) = (c.toNat : Int) :: u.map fun b => (b.toNat : Int) := by
          show (lst (strOf w)).map _ = _
          rw [lst_str, d3]; rfl
        rw [hb] at h3
        have hl : isLetter (c.toNat : Int) = true := h3
        have := dB_iff.1 hdc
        unfold isLetter at hl
        simp only [Bool.or_eq_true, Bool.and_eq_true, decide_eq_true_eq] at hl
        omega
    have hv : numV w 0 = t.n := by
      have := numV_nat w 0 d1
      rw [d2] at this
      have e0 : ((0 : Nat) : Int) = 0 := rfl
      rw [e0] at this
      omega
    have hok : numOk w = true := by
      unfold numOk
      simp only [Bool.and_eq_true, Bool.not_eq_true', decide_eq_false_iff_not, decide_eq_true_eq, Bool.and_eq_false_iff]
      refine ⟨⟨⟨w2, ?_⟩, d1⟩, by rw [hv]; exact hn1⟩
      by_cases h48 : c = 48
      · left
        rw [d3, (d4 h48).2]; simp
      · right
        rw [d3]; simp only [List.head?_cons, Option.some.injEq]; exact h48
    unfold clsT bare
    rw [if_neg (by simp [nk]), if_neg (by simp [nn]), if_pos hok, hv, k2, ht]
  · rw [if_neg k2] at hv
    simp only [Bool.and_eq_true, decide_eq_true_eq] at hv
    exact absurd hv.1.1 h5
end Hw.Pa
namespace Hw.Pa
open Go Go.Proofs Go.Shelf Hw.M

theorem valid_eq (t : Tok) : validT t = validF t := by
  unfold validT validF symIn
  by_cases k1 : t.k = 1
  · rw [if_pos k1, if_pos k1]
  rw [if_neg k1, if_neg k1]
  by_cases k3 : t.k = 3
  · rw [if_pos k3, if_pos k3]
  rw [if_neg k3, if_neg k3]
  by_cases k4 : t.k = 4
  · rw [if_pos k4, if_pos k4]
  rw [if_neg k4, if_neg k4]
  by_cases k2 : t.k = 2
  · rw [if_pos k2, if_pos k2, Bool.and_assoc]
  rw [if_neg k2, if_neg k2]
  by_cases k5 : t.k = 5
  · rw [if_pos k5, decide_eq_true k5, Bool.true_and]
  · rw [if_neg k5, decide_eq_false k5, Bool.false_and, Bool.false_and]
theorem lst_app (a b : Str) : lst (a ++ b) = lst a ++ lst b := by simp [lst, ByteArray.data_append]
theorem txt_lst (t : Tok) : lst (txtS t) = txtT t := by unfold txtS txtT; split <;> rfl
theorem lxx_tok {t : Tok} (hv : validF t = true) (h5 : t.k ≠ 5) {r : By} (hr : Sep r) (p : Int × Int) (out : List Tok) : ∃ u p', keyT u = keyT t ∧ lxx (txtT t ++ r) p out = lxx r p' (out ++ [u]) := by
  obtain ⟨h1, _, _⟩ := tk_tok (by rw [valid_eq]; exact hv) h5 hr
  refine ⟨tokAt p (bare t), ((txtT t ++ r).take (txtT t).length).foldl mv p, rfl, ?_⟩
  rw [lxx_step p out h1, List.drop_left]
  rfl
theorem lxx_blank {c : UInt8} (hb : blB c = true) (r : By) (p : Int × Int) (out : List Tok) : lxx (c :: r) p out = lxx r (mv p c) out := by
  have := step_blank (l := c :: r) (i := 0) p out rfl hb
  simpa using this
def Gap (g : By) : Prop := ∀ r p out, ∃ p', lxx (g ++ r) p out = lxx r p' out
theorem Gap.nil : Gap [] := fun r p _ => ⟨p, rfl⟩
theorem Gap.blank {c : UInt8} {g : By} (hb : blB c = true) (h : Gap g) : Gap (c :: g) := fun r p out => by
  obtain ⟨p', e⟩ := h r (mv p c) out
  exact ⟨p', by rw [List.cons_append, lxx_blank hb, e]⟩
theorem Gap.com {u g : By} (hu : u.all (fun b => decide (b ≠ 10)) = true) (h : Gap g) : Gap (35 :: u ++ 10 :: g) := fun r p out => by
  have e : 35 :: u ++ 10 :: g ++ r = (35 :: u) ++ (10 :: (g ++ r)) := by simp
  have hw : ((35 :: u) ++ (10 :: (g ++ r))).takeWhile (fun b => decide (b ≠ 10)) = 35 :: u := by
    refine takeWhile_all (by rw [List.all_cons, hu]; rfl) (.inr ⟨10, _, rfl, rfl⟩)
  have := step_com (l := (35 :: u) ++ (10 :: (g ++ r))) (i := 0) p out rfl rfl
  rw [List.drop_zero, hw, Nat.zero_add, List.drop_left] at this
  rw [e, this, lxx_blank (by decide)]
  exact h r _ out
def okL : List Tok → Prop
  | [] => True
  | t :: r => validF t = true ∧ (t.k = 5 → r = []) ∧ okL r
theorem okL_of : ∀ (l : List Tok) (n k : Nat), n = k + l.length → (∀ i t, l[i]? = some t → okAt n (k + i) t = true) → okL l
  | [], _, _, _, _ => trivial
  | t :: r, n, k, hn, h => by
    rw [List.length_cons] at hn
    refine ⟨?_, fun h5 => ?_, okL_of r n (k + 1) (by omega) fun i u hi => ?_⟩
    · have := h 0 t rfl
      unfold okAt at this
      simp only [Bool.and_eq_true] at this
      exact this.1
    · have := h 0 t rfl
      unfold okAt at this
      rw [h5] at this
      simp only [Bool.and_eq_true, Bool.not_eq_true', Bool.and_eq_false_iff, decide_eq_false_iff_not] at this
      cases r with
      | nil => rfl
      | cons a b => exfalso; rcases this.2 with h2 | h2
                    · exact absurd h2 (by simp)
                    · rw [List.length_cons] at hn; omega
    · have := h (i + 1) u (by simpa using hi)
      rwa [show k + (i + 1) = k + 1 + i by omega] at this
theorem okL_J {l : List Tok} (h : okJ l) : okL l := okL_of l l.length 0 (by omega) fun i t hi => by rw [Nat.zero_add]; exact h i t hi
def joinL : List Tok → Nat → By
  | [], _ => []
  | t :: r, i => if t.k = 5 then [] else (if 0 < i then [32] else []) ++ txtT t ++ joinL r (i + 1)
theorem accJ_lst : ∀ (l : List Tok) (i : Nat) (a : Str), lst (accJ l i a) = lst a ++ joinL l i
  | [], i, a => by simp [accJ, joinL]
  | t :: r, i, a => by
    rw [accJ_cons, joinL]
    by_cases h5 : t.k = 5
    · rw [if_pos h5, if_pos h5, List.append_nil]
    · rw [if_neg h5, if_neg h5, accJ_lst r (i + 1), lst_app, lst_app, txt_lst]
      have : lst (if 0 < i then (⟨#[32]⟩ : ByteArray) else (⟨#[]⟩ : ByteArray) : Str) = (if 0 < i then [32] else []) := by split <;> rfl
      rw [this]
      simp only [List.append_assoc]
theorem joinL_sep : ∀ (l : List Tok) (i : Nat), 0 < i → Sep (joinL l i)
  | [], _, _ => .inl rfl
  | t :: r, i, h => by
    rw [joinL]
    by_cases h5 : t.k = 5
    · rw [if_pos h5]; exact .inl rfl
    · rw [if_neg h5, if_pos h]; exact .inr ⟨32, _, rfl, by decide⟩
def endT : Tok := ⟨5, (⟨#[]⟩ : ByteArray), 0, 0, 0⟩
def withEnd (l : List Tok) : List Tok := if l.getLast?.map Tok.k = some 5 then l else l ++ [endT]
theorem withEnd_cons {t : Tok} {r : List Tok} (h : t.k = 5 → r = []) (h5 : t.k ≠ 5) : withEnd (t :: r) = t :: withEnd r := by
  unfold withEnd
  cases r with
  | nil => simp [h5]
  | cons a b =>
    rw [List.getLast?_cons_cons]
    split <;> rfl
theorem valid_end {t : Tok} (h : validF t = true) (h5 : t.k = 5) : keyT t = keyT endT := by
  unfold validF at h
  rw [h5] at h
  simp at h
  unfold keyT endT
  rw [h5, h.1, h.2]
theorem back : ∀ (l : List Tok) (i : Nat) (p : Int × Int) (out : List Tok), okL l → ∃ o, lxx (joinL l i) p out = (o, (0, 0), 0) ∧ o.map keyT = out.map keyT ++ (withEnd l).map keyT
  | [], i, p, out, _ => ⟨_, lxx_nil p out, by simp [withEnd, keyT, endT]⟩
  | t :: r, i, p, out, h => by
    obtain ⟨h1, h2, h3⟩ := h
    rw [joinL]
    by_cases h5 : t.k = 5
    · rw [if_pos h5]
      refine ⟨_, lxx_nil p out, ?_⟩
      have hr := h2 h5
      subst hr
      have e : withEnd [t] = [t] := by simp [withEnd, h5]
      rw [e, List.map_append, List.map_singleton, List.map_singleton, valid_end h1 h5]
      rfl
    · rw [if_neg h5, withEnd_cons h2 h5]
      have hs := joinL_sep r (i + 1) (Nat.succ_pos i)
      have main : ∀ p, ∃ o, lxx (txtT t ++ joinL r (i + 1)) p out = (o, (0, 0), 0) ∧ o.map keyT = out.map keyT ++ (t :: withEnd r).map keyT := fun p => by
        obtain ⟨u, p', hk, e⟩ := lxx_tok h1 h5 hs p out
        obtain ⟨o, e2, e3⟩ := back r (i + 1) p' (out ++ [u]) h3
        exact ⟨o, e.trans e2, by rw [e3]; simp [hk]⟩
      by_cases hi : 0 < i
      · rw [if_pos hi, List.append_assoc, List.singleton_append, lxx_blank (by decide)]
        exact main _
      · rw [if_neg hi, List.nil_append]
        exact main p
theorem join_back {l : List Tok} (ho : okJ l) (hz : (accJ l 0 (⟨#[]⟩ : ByteArray)).size ≤ 65536) : ∃ o, tokensS (accJ l 0 (⟨#[]⟩ : ByteArray)) = (o, (0, 0), 0) ∧ o.map keyT = (withEnd l).map keyT := by
  unfold tokensS
  rw [if_neg (by omega), accJ_lst]
  obtain ⟨o, e1, e2⟩ := back l 0 (1, 1) [] (okL_J ho)
  exact ⟨o, e1, by simpa using e2⟩
end Hw.Pa
namespace Hw.Pa
open Go Go.Proofs Hw.M

def szT : List Tok → Nat
  | [] => 0
  | t :: r => (txtT t).length + szT r
theorem szT_app (a b : List Tok) : szT (a ++ b) = szT a + szT b := by
  induction a with
  | nil => simp [szT]
  | cons x a ih => simp only [List.cons_append, szT, ih]; omega
theorem szT_take (l : List Tok) (i : Nat) : szT (l.take i) ≤ szT l := by
  conv => rhs; rw [← List.take_append_drop i l]
  rw [szT_app]; omega
theorem tk_size {l : By} {n : Nat} {t : Int × Str × Int} (h : tk l = some (n, some t)) (p : Int × Int) : (txtT (tokAt p t)).length ≤ 21 * n := by
  have hp := tk_pos h
  cases l with
  | nil => cases h
  | cons c r =>
    simp only [tk] at h
    split at h
    · simp at h
    · split at h
      · simp at h
      · split at h
        · rw [Option.map_eq_some_iff] at h
          obtain ⟨u, hu, h⟩ := h
          simp only [Prod.mk.injEq, Option.some.injEq] at h
          obtain ⟨h1, rfl⟩ := h
          unfold clsT at hu
          split at hu
          · simp only [Option.some.injEq] at hu
            subst hu
            unfold txtT tokAt
            rw [if_neg (show ¬ (3 : Int) = 2 by decide), lst_str]
            omega
          · split at hu
            · simp only [Option.some.injEq] at hu
              subst hu
              unfold txtT tokAt
              rw [if_neg (show ¬ (1 : Int) = 2 by decide), lst_str]
              omega
            · split at hu
              · rename_i hn
                simp only [Option.some.injEq] at hu
                subst hu
                unfold numOk at hn
                simp only [Bool.and_eq_true, decide_eq_true_eq] at hn
                have h0 := numV_ge hn.1.2
                unfold txtT tokAt
                rw [if_pos rfl, lst_len]
                have := itoaB_size (n := numV (List.takeWhile wB (c :: r)) 0) (by omega) (by omega)
                simp only at this ⊢
                omega
              · cases hu
        · rw [Option.map_eq_some_iff] at h
          obtain ⟨y, hy, h⟩ := h
          simp only [Prod.mk.injEq, Option.some.injEq] at h
          obtain ⟨h1, rfl⟩ := h
          unfold txtT tokAt
          rw [if_neg (show ¬ (4 : Int) = 2 by decide), lst_len]
          simp only at h1 ⊢
          omega
theorem lx_sz : ∀ (f : Nat) (l : By) (p : Int × Int) (out : List Tok), szT (lx f l p out).1 ≤ szT out + 21 * l.length
  | 0, _, _, _ => by simp [lx, szT]
  | _ + 1, [], p, out => by
    simp only [lx, szT_app]
    have : szT [(⟨5, (⟨#[]⟩ : ByteArray), 0, p.1, p.2⟩ : Tok)] = 0 := rfl
    omega
  | f + 1, c :: r, p, out => by
    simp only [lx]
    cases e : tk (c :: r) with
    | none => simp [szT]
    | some x =>
      obtain ⟨n, o⟩ := x
      have hp := tk_pos e
      simp only
      have h := lx_sz f ((c :: r).drop n) (((c :: r).take n).foldl mv p) (out ++ (o.map (tokAt p)).toList)
      have hd : ((c :: r).drop n).length = (c :: r).length - n := List.length_drop
      rw [szT_app, hd] at h
      cases o with
      | none =>
        have : szT ((none : Option (Int × Str × Int)).map (tokAt p)).toList = 0 := rfl
        omega
      | some t =>
        have h2 := tk_size e p
        have h3 : szT ((some t).map (tokAt p)).toList = (txtT (tokAt p t)).length := by simp [szT]
        omega
theorem tokens_sz (s : Str) : szT (tokensS s).1 ≤ 21 * s.size := by
  unfold tokensS
  split
  · simp [szT]
  · have := lx_sz ((lst s).length + 1) (lst s) (1, 1) []
    unfold lxx
    rw [lst_len] at this ⊢
    simpa [szT] using this
theorem joinL_len : ∀ (l : List Tok) (i : Nat), (joinL l i).length ≤ szT l + l.length
  | [], _ => by simp [joinL]
  | t :: r, i => by
    have h := joinL_len r (i + 1)
    rw [joinL]
    split
    · simp
    · simp only [List.length_append, szT, List.length_cons]
      split <;> simp only [List.length_cons, List.length_nil] <;> omega
theorem accJ_len (l : List Tok) : (accJ l 0 (⟨#[]⟩ : ByteArray)).size = (joinL l 0).length := by
  rw [← lst_len, accJ_lst]; simp [lst]
end Hw.Pa
namespace Hw.Pa
open Go Go.Proofs Hw.M

def LXa (u : By) (ts : List Tok) : Prop := ∀ (r : By) (p : Int × Int) (out : List Tok), ∃ p' o, lxx (u ++ r) p out = lxx r p' (out ++ o) ∧ o.map keyT = ts.map keyT
def LXs (u : By) (ts : List Tok) : Prop := ∀ (r : By), Sep r → ∀ (p : Int × Int) (out : List Tok), ∃ p' o, lxx (u ++ r) p out = lxx r p' (out ++ o) ∧ o.map keyT = ts.map keyT
theorem LXa.s {u : By} {ts : List Tok} (h : LXa u ts) : LXs u ts := fun r _ p out => h r p out
theorem LXa.nil : LXa [] [] := fun r p out => ⟨p, [], by simp, rfl⟩
theorem LXa.app {u v : By} {a b : List Tok} (h1 : LXa u a) (h2 : LXa v b) : LXa (u ++ v) (a ++ b) := fun r p out => by
  obtain ⟨p1, o1, e1, k1⟩ := h1 (v ++ r) p out
  obtain ⟨p2, o2, e2, k2⟩ := h2 r p1 (out ++ o1)
  exact ⟨p2, o1 ++ o2, by rw [List.append_assoc, e1, e2, List.append_assoc], by rw [List.map_append, List.map_append, k1, k2]⟩
theorem LXa.appS {u v : By} {a b : List Tok} (h1 : LXa u a) (h2 : LXs v b) : LXs (u ++ v) (a ++ b) := fun r hr p out => by
  obtain ⟨p1, o1, e1, k1⟩ := h1 (v ++ r) p out
  obtain ⟨p2, o2, e2, k2⟩ := h2 r hr p1 (out ++ o1)
  exact ⟨p2, o1 ++ o2, by rw [List.append_assoc, e1, e2, List.append_assoc], by rw [List.map_append, List.map_append, k1, k2]⟩
theorem LXs.appA {u v : By} {a b : List Tok} (h1 : LXs u a) (h2 : LXa v b) (hv : ∀ r, Sep (v ++ r)) : LXa (u ++ v) (a ++ b) := fun r p out => by
  obtain ⟨p1, o1, e1, k1⟩ := h1 (v ++ r) (hv r) p out
  obtain ⟨p2, o2, e2, k2⟩ := h2 r p1 (out ++ o1)
  exact ⟨p2, o1 ++ o2, by rw [List.append_assoc, e1, e2, List.append_assoc], by rw [List.map_append, List.map_append, k1, k2]⟩
theorem LXs.app {u v : By} {a b : List Tok} (h1 : LXs u a) (h2 : LXs v b) (hv : ∀ r, Sep (v ++ r)) : LXs (u ++ v) (a ++ b) := fun r hr p out => by
  obtain ⟨p1, o1, e1, k1⟩ := h1 (v ++ r) (hv r) p out
  obtain ⟨p2, o2, e2, k2⟩ := h2 r hr p1 (out ++ o1)
  exact ⟨p2, o1 ++ o2, by rw [List.append_assoc, e1, e2, List.append_assoc], by rw [List.map_append, List.map_append, k1, k2]⟩
abbrev tK (k : Int) (t : Str) (n : Int) : Tok := ⟨k, t, n, 0, 0⟩
theorem LXs.tok {t : Tok} (hv : validF t = true) (h5 : t.k ≠ 5) : LXs (txtT t) [t] := fun r hr p out => by
  obtain ⟨u, p', k, e⟩ := lxx_tok hv h5 hr p out
  exact ⟨p', [u], e, by simp [k]⟩
theorem LXa.blank {c : UInt8} (hb : blB c = true) : LXa [c] [] := fun r p out => ⟨mv p c, [], by rw [List.singleton_append, lxx_blank hb, List.append_nil], rfl⟩
theorem LXa.so : LXa [35, 32, 115, 111, 10] [] := fun r p out => by
  obtain ⟨p', e⟩ := (Gap.com (u := [32, 115, 111]) (by decide) Gap.nil) r p out
  exact ⟨p', [], by rw [List.append_nil]; exact e, rfl⟩
theorem LXa.sym {c : UInt8} {y : Str} (hy : lst y = [c]) (hw : wB c = false) (hbl : blB c = false) (h35 : c ≠ 35) (hs : ∀ r, symL (c :: r) = some y) : LXa [c] [tK 4 y 0] := fun r p out => by
  have h : tk (c :: r) = some (1, some (4, y, 0)) := by
    simp only [tk]
    rw [if_neg (by rw [hbl]; simp), if_neg h35, if_neg (by rw [hw]; simp), hs]
    have : y.size = 1 := by rw [← lst_len, hy]; rfl
    simp [this]
  refine ⟨((c :: r).take 1).foldl mv p, [tokAt p (4, y, 0)], ?_, rfl⟩
  rw [List.singleton_append, lxx_step p out h]
  rfl
theorem LXa.open_ : LXa [40] [tK 4 (⟨#[40]⟩ : ByteArray) 0] := .sym rfl (by decide) (by decide) (by decide) fun r => rfl
theorem LXa.close_ : LXa [41] [tK 4 (⟨#[41]⟩ : ByteArray) 0] := .sym rfl (by decide) (by decide) (by decide) fun r => rfl
def opnK (how : Nat) : List Tok := if how % 3 = 1 then [tK 4 (⟨#[40]⟩ : ByteArray) 0, tK 4 (⟨#[40]⟩ : ByteArray) 0] else [tK 4 (⟨#[40]⟩ : ByteArray) 0]
def clsK (how : Nat) : List Tok := if how % 3 = 1 then [tK 4 (⟨#[41]⟩ : ByteArray) 0, tK 4 (⟨#[41]⟩ : ByteArray) 0] else [tK 4 (⟨#[41]⟩ : ByteArray) 0]
theorem opn_lx (how : Nat) : LXa (lst (opn how)) (opnK how) := by
  unfold opn opnK
  by_cases h1 : how % 3 = 1
  · rw [if_pos h1, if_pos h1]; exact LXa.open_.app LXa.open_
  · rw [if_neg h1, if_neg h1]
    by_cases h2 : how % 3 = 2
    · rw [if_pos h2]; exact (LXa.open_.app (LXa.blank (c := 32) (by decide))).app LXa.so
    · rw [if_neg h2]; exact LXa.open_
theorem cls_lx (how : Nat) : LXa (lst (cls how)) (clsK how) := by
  unfold cls clsK
  by_cases h1 : how % 3 = 1
  · rw [if_pos h1, if_pos h1]; exact LXa.close_.app LXa.close_
  · rw [if_neg h1, if_neg h1]
    by_cases h2 : how % 3 = 2
    · rw [if_pos h2]; exact (LXa.blank (c := 9) (by decide)).app LXa.close_
    · rw [if_neg h2]; exact LXa.close_
theorem cls_sep (how : Nat) (r : By) : Sep (lst (cls how) ++ r) := by
  unfold cls
  split
  · exact .inr ⟨41, _, rfl, by decide⟩
  · split
    · exact .inr ⟨9, _, rfl, by decide⟩
    · exact .inr ⟨41, _, rfl, by decide⟩
theorem opn_sep (how : Nat) (r : By) : Sep (lst (opn how) ++ r) := by
  unfold opn
  split
  · exact .inr ⟨40, _, rfl, by decide⟩
  · split
    · exact .inr ⟨40, _, rfl, by decide⟩
    · exact .inr ⟨40, _, rfl, by decide⟩
end Hw.Pa
namespace Hw.Pa
open Go Go.Proofs Hw.M

def sgT (op : Int) : Tok := tK (if op = 19 ∨ op = 20 then 3 else 4) (sgnS op) 0
def joinK : List (List Tok) → Nat → List Tok
  | [], _ => []
  | p :: r, i => (if 0 < i then [tK 4 (⟨#[44]⟩ : ByteArray) 0] else []) ++ p ++ joinK r (i + 1)
def lstK (ps : List (List Tok)) : List Tok := [tK 4 (⟨#[40]⟩ : ByteArray) 0] ++ joinK ps 0 ++ [tK 4 (⟨#[41]⟩ : ByteArray) 0]
def ownK (op n : Int) (s : Str) (ps : List (List Tok)) : List Tok :=
  if op = 1 then [tK 2 (⟨#[]⟩ : ByteArray) n] else if op = 2 then (if n = 1 then [tK 3 (⟨#[116, 114, 117, 101]⟩ : ByteArray) 0] else [tK 3 (⟨#[102, 97, 108, 115, 101]⟩ : ByteArray) 0]) else if op = 3 then [tK 3 (⟨#[110, 105, 108]⟩ : ByteArray) 0] else if op = 4 then (if s = (⟨#[116, 104, 105, 115]⟩ : ByteArray) then [tK 3 (⟨#[116, 104, 105, 115]⟩ : ByteArray) 0] else [tK 1 s 0])
  else if op = 6 then [tK 3 (⟨#[110, 101, 119]⟩ : ByteArray) 0, tK 1 s 0]
  else if op = 5 then ps.getD 0 [] ++ [tK 4 (⟨#[46]⟩ : ByteArray) 0, tK 1 s 0] else if op = 7 then [tK 1 s 0] ++ lstK ps else if op = 21 then [tK 3 (⟨#[105, 102]⟩ : ByteArray) 0] ++ lstK ps else if op = 22 then [tK 3 (⟨#[109, 97, 120]⟩ : ByteArray) 0] ++ lstK ps
  else if op = 23 then [tK 3 (⟨#[109, 105, 110]⟩ : ByteArray) 0] ++ lstK ps else if op = 24 then [tK 3 (⟨#[108, 111, 103]⟩ : ByteArray) 0] ++ lstK ps else if op = 18 then [tK 3 (⟨#[110, 111, 116]⟩ : ByteArray) 0] ++ ps.getD 0 [] else if op = 8 then [tK 4 (⟨#[45]⟩ : ByteArray) 0] ++ ps.getD 0 []
  else ps.getD 0 [] ++ [sgT op] ++ ps.getD 1 []
mutual
def fullK : Ex → Nat → List Tok
  | .mk op n s l, how => ownK op n s (partsK l how)
def partsK : List Ex → Nat → List (List Tok)
  | [], _ => []
  | x :: r, how => (opnK how ++ fullK x (how / 3) ++ clsK how) :: partsK r how
end
def PL : List Str → List (List Tok) → Prop
  | [], [] => True
  | p :: ps, k :: ks => LXa (lst p) k ∧ (∀ r, Sep (lst p ++ r)) ∧ PL ps ks
  | _, _ => False
theorem txt_kw {k : Int} {s : Str} (h : k ≠ 2) : txtT (tK k s 0) = lst s := by unfold txtT; rw [if_neg h]
theorem lx_kw (s : Str) (hv : validF (tK 3 s 0) = true) : LXs (lst s) [tK 3 s 0] := by
  have := LXs.tok hv (show (3 : Int) ≠ 5 by decide)
  rwa [txt_kw (by decide)] at this
theorem lx_sy (s : Str) (hv : validF (tK 4 s 0) = true) : LXs (lst s) [tK 4 s 0] := by
  have := LXs.tok hv (show (4 : Int) ≠ 5 by decide)
  rwa [txt_kw (by decide)] at this
theorem lx_nm {s : Str} (hn : isName s = true) : LXs (lst s) [tK 1 s 0] := by
  have hv : validF (tK 1 s 0) = true := by unfold validF; simp [hn]
  have := LXs.tok hv (show (1 : Int) ≠ 5 by decide)
  rwa [txt_kw (by decide)] at this
theorem lx_int {n : Int} (h0 : 0 ≤ n) (h1 : n ≤ 1099511627776) : LXs (lst (itoaB n)) [tK 2 (⟨#[]⟩ : ByteArray) n] := by
  have hv : validF (tK 2 (⟨#[]⟩ : ByteArray) n) = true := by unfold validF; simp [h0, h1]
  exact LXs.tok hv (show (2 : Int) ≠ 5 by decide)
theorem join_lx : ∀ (ps : List Str) (ks : List (List Tok)) (i : Nat) (a : Str) (t : List Tok), PL ps ks → (i = 0 → a = (⟨#[]⟩ : ByteArray) ∧ t = []) → LXa (lst a) t → LXa (lst (accC ps i a)) (t ++ joinK ks i)
  | [], [], i, a, t, _, _, h => by rw [accC, joinK, List.append_nil]; exact h
  | p :: ps, k :: ks, i, a, t, hp, h0, h => by
    obtain ⟨h1, h2, h3⟩ := hp
    rw [accC, joinK]
    have hc : LXs [44] [tK 4 (⟨#[44]⟩ : ByteArray) 0] := lx_sy (⟨#[44]⟩ : ByteArray) (by decide)
    by_cases hi : 0 < i
    · rw [if_pos hi, if_pos hi]
      have e1 : LXa (lst (a ++ (⟨#[32, 44]⟩ : ByteArray) ++ p)) (t ++ [tK 4 (⟨#[44]⟩ : ByteArray) 0] ++ k) := by
        have e2 : LXa ([44] ++ lst p) ([tK 4 (⟨#[44]⟩ : ByteArray) 0] ++ k) := hc.appA h1 h2
        have e3 := h.app ((LXa.blank (c := 32) (by decide)).app e2)
        have e4 : lst (a ++ (⟨#[32, 44]⟩ : ByteArray) ++ p) = lst a ++ ([32] ++ ([44] ++ lst p)) := by rw [lst_app, lst_app, List.append_assoc]; rfl
        rw [e4]
        simpa using e3
      have := join_lx ps ks (i + 1) (a ++ (⟨#[32, 44]⟩ : ByteArray) ++ p) (t ++ [tK 4 (⟨#[44]⟩ : ByteArray) 0] ++ k) h3 (fun h => by omega) e1
      simpa using this
    · rw [if_neg hi, if_neg hi]
      have e1 : LXa (lst (a ++ p)) (t ++ k) := by rw [lst_app]; exact h.app h1
      have := join_lx ps ks (i + 1) (a ++ p) (t ++ k) h3 (fun h => by omega) e1
      simpa using this
theorem lst_lx {ps : List Str} {ks : List (List Tok)} (h : PL ps ks) : LXa (lst (lstC ps)) (lstK ks) := by
  unfold lstC lstK
  rw [lst_app, lst_app]
  exact (LXa.open_.app (join_lx ps ks 0 (⟨#[]⟩ : ByteArray) [] h (fun _ => ⟨rfl, rfl⟩) LXa.nil)).app LXa.close_
theorem lst_sep (ps : List Str) (r : By) : Sep (lst (lstC ps) ++ r) := by
  unfold lstC
  rw [lst_app, lst_app]
  exact .inr ⟨40, _, rfl, by decide⟩
end Hw.Pa
/- The engine, part BD: a bag of arrays that the run owns: length, index, load, store. -/
namespace Hw
open Go

theorem bag_inner {M : Mem} {ρ : Nat → Value} {w : World} {id e q : Nat} {L : List (List (List PV))} {rs : List (List PV)} (h : HoldsR M ρ w id (.bag e L)) (hq : L[q]? = some rs) {v : Value} {xs : List Value} (hx : ρ id = .tuple xs.toArray) (hv : xs[q]? = some v) : ArrIn M w v e rs := by
  obtain ⟨cs, h2, _, hc, _⟩ := h
  rw [h2] at hx
  simp only [Value.tuple.injEq] at hx
  have f3 : xs = cs := by have := congrArg Array.toList hx; simpa using this.symm
  subst f3
  obtain ⟨c, c1, c2⟩ := hc q _ hq
  rw [hv] at c1
  obtain rfl := Option.some.inj c1
  exact c2
section
variable {P : Program} {d : Option Nat} {ty : TypeId} {ps : String} {af : Array Edge} {g : Option (Nat × Bool)} {x y : Operand} {t : TypeId}
end
section
variable {P : Program} {C : Ctx} {k : List Frm} {n : Nat} {sl : Slots} {tab : Tab} {Q : Exit → St → Prop} {all : Array Oper} {rest : List Oper}
end
end Hw
/- The engine, part BE: resources that become one. -/
namespace Hw
open Go

def RwV (F : (Nat → Value) → Prop) (v v' : V) : Prop := ∀ M ρ x, F ρ → RepV M ρ v x → RepV M ρ v' x
def RwVs (F : (Nat → Value) → Prop) (v v' : List V) : Prop := ∀ M ρ x, F ρ → RepVs M ρ v x → RepVs M ρ v' x
def RwS (F : (Nat → Value) → Prop) (v v' : S) : Prop := ∀ M ρ x, F ρ → RepS M ρ v x → RepS M ρ v' x
def RwR (F : (Nat → Value) → Prop) (r r' : Res) : Prop := ∀ M ρ w i, F ρ → HoldsR M ρ w i r → HoldsR M ρ w i r'
section
variable {F : (Nat → Value) → Prop}
theorem RwV.refl (v : V) : RwV F v v := fun _ _ _ _ h => h
theorem RwVs.nil : RwVs F [] [] := fun _ _ _ _ h => h
theorem RwVs.refl (v : List V) : RwVs F v v := fun _ _ _ _ h => h
theorem RwVs.cons {v v' : V} {vs vs' : List V} (h : RwV F v v') (hs : RwVs F vs vs') : RwVs F (v :: vs) (v' :: vs') := fun M ρ x hf hr => by
  cases x with
  | nil => simp only [RepVs] at hr
  | cons c cs => simp only [RepVs] at hr ⊢; exact ⟨h _ _ _ hf hr.1, hs _ _ _ hf hr.2⟩
theorem RwS.refl (v : S) : RwS F v v := fun _ _ _ _ h => h
theorem RwS.one {v v' : V} (h : RwV F v v') : RwS F (.one v) (.one v') := fun M ρ x hf hr => by simp only [RepS] at hr ⊢; exact h _ _ _ hf hr
theorem RwS.agg {v v' : List V} (h : RwVs F v v') : RwS F (.agg v) (.agg v') := fun M ρ x hf hr => by
  simp only [RepS] at hr ⊢; obtain ⟨cs, h1, h2⟩ := hr; exact ⟨cs, h1, h _ _ _ hf h2⟩
theorem RwR.refl (r : Res) : RwR F r r := fun _ _ _ _ _ h => h
theorem RwR.box {vs vs' : List V} (h : RwVs F vs vs') : RwR F (.box vs) (.box vs') := fun _ _ _ _ hr ⟨b, cs, el, e1, e2, e3⟩ => ⟨b, cs, el, e1, e2, h _ _ _ hr e3⟩
theorem RwR.vw {ids ids' : List Nat} {e : Nat} {rows rows' : List (List PC)} (hl : rows'.length = rows.length) (hle : ∀ r ∈ rows', r.length = e)
    (h : ∀ (j : Nat) (x' : PC), rows'.flatten[j]? = some x' → ∃ x, rows.flatten[j]? = some x ∧ RwV F (toV ids x) (toV ids' x')) : RwR F (.vw ids e rows) (.vw ids' e rows') := fun M ρ w i hF hr => by
  obtain ⟨a, cap, h1, h2, h3, _, h4⟩ := hr
  refine ⟨a, cap, by rw [hl]; exact h1, by omega, h3, hle, ?_⟩
  rcases h4 with h4 | ⟨b, o, cs, el, fz, h5, h6, h6', h7, h8⟩
  · exact .inl h4
  · refine .inr ⟨b, o, cs, el, fz, h5, h6, h6', h7, fun j x' hj => ?_⟩
    obtain ⟨x, hx, hv⟩ := h j x' hj
    obtain ⟨c, c1, c2⟩ := h8 j x hx
    exact ⟨c, c1, hv _ _ _ hF c2⟩
end
def upW (F : (Nat → Value) → Prop) (olds news : List Nat) (tab : Tab) : List (Nat × Res) → Prop
  | [] => True
  | (i, r') :: l => (∃ r, tg tab i = some r ∧ ((hasB i olds || hasB i news) = false ∧ RwR F r r')) ∧ upW F olds news tab l
structure Remade (M : Mem) (ρ ρ' : Nat → Value) (w : World) (tab : Tab) (olds : List Nat) (news : RL) : Prop where
  agr : ∀ i, i ∉ news.ids → ρ' i = ρ i
  res : ∀ i r, tg (tb news) i = some r → HoldsR M ρ' w i r
  blk : ∀ i r b, tg (tb news) i = some r → Bk (ρ' i) b → ∃ j s, j ∈ olds ∧ tg tab j = some s ∧ Bk (ρ j) b
  dis : ∀ i j ri rj b, tg (tb news) i = some ri → tg (tb news) j = some rj → i ≠ j → Bk (ρ' i) b → Bk (ρ' j) b → False
section
variable {P : Program} {C : Ctx} {k : List Frm} {n : Nat} {sl : Slots} {tab : Tab} {Q : Exit → St → Prop} {cur : Cur}
def TkF (id id2 id' m : Nat) (ρ : Nat → Value) : Prop := ∃ cs : List Value, ρ id = .tuple cs.toArray ∧ cs.length = m ∧ (ρ id2).oneCell' = true ∧ ρ id' = .tuple (cs ++ [ρ id2]).toArray
theorem TkF.nv {id id2 id' m j : Nat} : RwV (TkF id id2 id' m) (.nv id j) (.nv id' j) := fun M ρ x hF hr => by
  obtain ⟨cs, h1, h2, h3, h4⟩ := hF
  simp only [RepV] at hr ⊢
  obtain ⟨xs, f1, f2, f3⟩ := hr
  rw [h1] at f1
  have : xs = cs := by simp only [Value.tuple.injEq] at f1; have := congrArg Array.toList f1; simpa using this.symm
  subst this
  exact ⟨_, h4, by rw [List.getElem?_append_left (List.getElem?_eq_some_iff.1 f2).1]; exact f2, f3⟩
theorem TkF.ar {id id2 id' m : Nat} : RwV (TkF id id2 id' m) (.ar id2) (.nv id' m) := fun M ρ x hF hr => by
  obtain ⟨cs, h1, h2, h3, h4⟩ := hF
  simp only [RepV] at hr ⊢
  exact ⟨_, h4, by rw [List.getElem?_append_right (by omega), h2, Nat.sub_self, hr.1]; rfl, hr.2⟩
end
end Hw
/- The engine, part BF: owned arrays whose cells may lead to other resources (Res.vw): index, length, load, store, append, literal. -/
namespace Hw
open Go

section
variable {P : Program} {d : Option Nat} {ty : TypeId} {ps : String} {af : Array Edge} {g : Option (Nat × Bool)} {x y : Operand} {t : TypeId}
def SrcW (P : Program) (e : Nat) (tx : TypeId) (s : S) (rt : RL) (rows : List (List PC)) (ids : List Nat) : Prop :=
  ∀ (C : Ctx) (st : St) (M : Mem) (ρ : Nat → Value) (a : Act) (w : World) (v : Value), Holds C st M ρ a w → RepS M ρ s v → okT rt st →
    ∃ news, Src P e tx v rows.length news w ∧ (∀ (j : Nat) (p : PC), rows.flatten[j]? = some p → ∃ c, news[j]? = some c ∧ RepV M ρ (toV ids p) c) ∧ ∀ r ∈ rows, r.length = e
theorem SrcW.vw {e : Nat} {tx el : TypeId} {id : Nat} {rows : List (List PC)} {ids : List Nat} (h : elemSz P tx = some (el, e)) : SrcW P e tx (.one (.ar id)) [(id, .vw ids e rows)] rows ids := by
  intro C st M ρ a w v hH hr ht
  obtain ⟨_, hu, _, _⟩ := elemSz_spec h
  obtain ⟨b, cap, h1, h2, h3, hl, h4⟩ := hH.tabs.res id _ ht.1
  simp only [RepS, RepV] at hr
  rw [h1] at hr; rw [hr.1]
  rcases h4 with ⟨rfl, hc⟩ | ⟨b', o, cs, el', fz, rfl, h6, _, _, h8⟩
  · have : rows = [] := List.length_eq_zero_iff.1 (by omega)
    subst this
    exact ⟨[], Src.ofNil w hu cap, by simp, by simp⟩
  · obtain ⟨us, h9, h10⟩ := repVs_of (M := M) (ρ := ρ) (vs := rows.flatten.map (toV ids)) (g := fun j => cs[o + j]?) fun j u hj => by
      rw [List.getElem?_map, Option.map_eq_some_iff] at hj
      obtain ⟨p, hp, rfl⟩ := hj
      exact h8 j p hp
    refine ⟨us, Src.ofSlice w hu _ _ cap us (by rw [h9.length, List.length_map, flat_len hl]) (fun j u hj => by rw [add_addr]; have := h10 j u hj; simp [World.cell?, h6, this]) h9.one, fun j p hj => ?_, hl⟩
    exact repVs_at h9 (m := j) (by rw [List.getElem?_map, hj]; rfl)

end
section
variable {P : Program} {C : Ctx} {k : List Frm} {n : Nat} {sl : Slots} {tab : Tab} {Q : Exit → St → Prop} {all : Array Oper} {rest : List Oper} {cur : Cur}
end
end Hw
/- The engine, part BH: resources lent to a call as memory that nobody writes; resources that are written no more. -/
namespace Hw
open Go

open Classical in
noncomputable def lentN (M : Mem) (ρ : Nat → Value) (w : World) (B : RL) : Mem := fun b o => match M b o with
  | some v => some v
  | none => if ∃ i r, (i, r) ∈ B ∧ Bk (ρ i) b then w.cell? ⟨b, o, none⟩ else none
def HasAll (M : Mem) (ρ : Nat → Value) (w : World) (B : RL) : Prop := Imm M w ∧ ∀ i r, (i, r) ∈ B → HoldsR M ρ w i r
theorem lentN_le {M : Mem} {ρ : Nat → Value} {w : World} {B : RL} : MLe M (lentN M ρ w B) := fun b o v hv => by simp only [lentN, hv]
theorem lentN_cell {M : Mem} {ρ : Nat → Value} {w : World} {B : RL} (hI : Imm M w) {b : Nat} (hb : ∃ i r, (i, r) ∈ B ∧ Bk (ρ i) b) {cs : Array Value} {el : TypeId} {fz : Nat × Nat} (hh : w.heap[b]? = some (.cells cs el fz)) (i : Nat) (c : Value) (hc : cs[i]? = some c) : lentN M ρ w B b i = some c := by
  have hc' : w.cell? ⟨b, i, none⟩ = some c := by simp [World.cell?, hh, hc]
  simp only [lentN]
  cases hm0 : M b i with
  | none => simp only; rw [if_pos hb]; exact hc'
  | some u => have := hI b i u hm0; rw [hc'] at this; exact this.symm
theorem lent_arr {M : Mem} {ρ : Nat → Value} {w : World} {B : RL} (hI : Imm M w) {v : Value} {e : Nat} {rs : List (List PV)} (h : ArrIn M w v e rs) (hb : ∀ b, blk v = some b → ∃ i r, (i, r) ∈ B ∧ Bk (ρ i) b) : RepPV (lentN M ρ w B) (.sl e rs) v := by
  obtain ⟨a0, cap, h1, h2, h3, h4⟩ := h
  simp only [RepPV]
  refine ⟨a0, cap, h1, h2, Nat.le_trans h2 h3, ?_⟩
  rcases h4 with ⟨rfl, hc⟩ | ⟨b, o, cs, el, fz, h5, h6, h6', h7, h8⟩
  · exact .inl (List.length_eq_zero_iff.1 (by omega))
  · exact .inr ⟨b, o, h5, RowsIn.mono lentN_le (fun i c hc => lentN_cell hI (hb b (by rw [h1, h5]; rfl)) h6 i c hc) _ _ h8⟩

def LnV (B : RL) (v v' : V) : Prop := ∀ M ρ w u, HasAll M ρ w B → RepV M ρ v u → RepV (lentN M ρ w B) ρ v' u
def LnVs (B : RL) (v v' : List V) : Prop := ∀ M ρ w u, HasAll M ρ w B → RepVs M ρ v u → RepVs (lentN M ρ w B) ρ v' u
def LnS (B : RL) (v v' : S) : Prop := ∀ M ρ w u, HasAll M ρ w B → RepS M ρ v u → RepS (lentN M ρ w B) ρ v' u
def LnSs (B : RL) (v v' : List S) : Prop := ∀ M ρ w u, HasAll M ρ w B → RepSs M ρ v u → RepSs (lentN M ρ w B) ρ v' u
section
variable {B : RL}
theorem LnV.le {v v' : V} (h : LeV v v') : LnV B v v' := fun _ _ _ _ _ hr => h _ _ _ (RepV.mono lentN_le _ _ hr)
theorem LnV.refl (v : V) : LnV B v v := .le (.refl v)
theorem LnS.le {v v' : S} (h : LeS v v') : LnS B v v' := fun _ _ _ _ _ hr => h _ _ _ (RepS.mono lentN_le _ _ hr)
theorem LnS.refl (v : S) : LnS B v v := .le (.refl v)
theorem LnVs.nil : LnVs B [] [] := fun _ _ _ x _ hr => by cases x <;> simp only [RepVs] at hr ⊢
theorem LnVs.cons {v v' : V} {vs vs' : List V} (h : LnV B v v') (hs : LnVs B vs vs') : LnVs B (v :: vs) (v' :: vs') := fun M ρ w x hf hr => by
  cases x with
  | nil => simp only [RepVs] at hr
  | cons c cs => simp only [RepVs] at hr ⊢; exact ⟨h _ _ _ _ hf hr.1, hs _ _ _ _ hf hr.2⟩
theorem LnVs.refl : ∀ v : List V, LnVs B v v
  | [] => .nil
  | v :: vs => .cons (.refl v) (LnVs.refl vs)
theorem LnS.one {v v' : V} (h : LnV B v v') : LnS B (.one v) (.one v') := fun M ρ w x hf hr => by simp only [RepS] at hr ⊢; exact h _ _ _ _ hf hr
theorem LnS.agg {v v' : List V} (h : LnVs B v v') : LnS B (.agg v) (.agg v') := fun M ρ w x hf hr => by
  simp only [RepS] at hr ⊢; obtain ⟨cs, h1, h2⟩ := hr; exact ⟨cs, h1, h _ _ _ _ hf h2⟩
theorem LnSs.nil : LnSs B [] [] := fun _ _ _ x _ hr => by cases x <;> simp only [RepSs] at hr ⊢
theorem LnSs.cons {v v' : S} {vs vs' : List S} (h : LnS B v v') (hs : LnSs B vs vs') : LnSs B (v :: vs) (v' :: vs') := fun M ρ w x hf hr => by
  cases x with
  | nil => simp only [RepSs] at hr
  | cons c cs => simp only [RepSs] at hr ⊢; exact ⟨h _ _ _ _ hf hr.1, hs _ _ _ _ hf hr.2⟩
theorem LnSs.refl : ∀ v : List S, LnSs B v v
  | [] => .nil
  | v :: vs => .cons (.refl v) (LnSs.refl vs)
theorem LnV.ar {id e : Nat} {rows : List (List PV)} (hm : (id, .arr e rows) ∈ B) : LnV B (.ar id) (.p (.sl e rows)) := fun M ρ w u hH hr => by
  simp only [RepV] at hr ⊢
  have hA : ArrIn M w (ρ id) e rows := hH.2 id _ hm
  rw [hr.1]
  obtain ⟨a, cap, h1, _⟩ := hA
  have hA : ArrIn M w (ρ id) e rows := hH.2 id _ hm
  exact lent_arr hH.1 hA fun b hb => ⟨id, _, hm, by rw [h1] at hb ⊢; exact hb⟩
theorem LnV.nv {id e q : Nat} {L : List (List (List PV))} {rs : List (List PV)} (hm : (id, .bag e L) ∈ B) (hq : L[q]? = some rs) : LnV B (.nv id q) (.p (.sl e rs)) := fun M ρ w u hH hr => by
  simp only [RepV] at hr ⊢
  obtain ⟨xs, f1, f2, _⟩ := hr
  exact lent_arr hH.1 (bag_inner (hH.2 id _ hm) hq f1 f2) fun b hb => ⟨id, _, hm, by rw [f1]; exact bk_of f2 hb⟩
theorem LnV.vw {id e : Nat} {ids : List Nat} {rows : List (List PC)} {rows' : List (List PV)} (hm : (id, .vw ids e rows) ∈ B) (hl : rows'.length = rows.length) (hle : ∀ r ∈ rows', r.length = e)
    (hc : ∀ (j : Nat) (x' : PV), rows'.flatten[j]? = some x' → ∃ x, rows.flatten[j]? = some x ∧ LnV B (toV ids x) (.p x')) : LnV B (.ar id) (.p (.sl e rows')) := fun M ρ w u hH hr => by
  simp only [RepV, RepPV] at hr ⊢
  obtain ⟨a, cap, h1, h2, h3, _, h4⟩ := hH.2 id _ hm
  refine ⟨a, cap, by rw [hl]; exact hr.1.trans h1, by omega, by omega, ?_⟩
  rcases h4 with ⟨rfl, hcap⟩ | ⟨b, o, cs, el, fz, h5, h6, h6', h7, h8⟩
  · exact .inl (List.length_eq_zero_iff.1 (by omega))
  · refine .inr ⟨b, o, h5, ?_⟩
    have hb : ∃ i r, (i, r) ∈ B ∧ Bk (ρ i) b := ⟨id, _, hm, by rw [h1, h5]; rfl⟩
    obtain ⟨ds, k9, k10⟩ := repVs_of (M := lentN M ρ w B) (ρ := ρ) (vs := rows'.flatten.map V.p) (g := fun j => cs[o + j]?) fun j v hj => by
      rw [List.getElem?_map, Option.map_eq_some_iff] at hj
      obtain ⟨x', hx', rfl⟩ := hj
      obtain ⟨x, hx, hv⟩ := hc j x' hx'
      obtain ⟨c, c1, c2⟩ := h8 j x hx
      exact ⟨c, c1, hv _ _ _ _ hH c2⟩
    exact RowsIn.mono (MLe.refl _) (fun i c hcc => lentN_cell hH.1 hb h6 i c hcc) _ _ (RowsIn.of_cells (ρ := ρ) hle k9 fun j c hj => k10 j c hj)
end
section
variable {P : Program} {d : Option Nat} {ty : TypeId} {ps : String} {af : Array Edge} {g : Option (Nat × Bool)}
end
section
variable {P : Program} {C : Ctx} {k : List Frm} {n : Nat} {sl : Slots} {tab : Tab} {Q : Exit → St → Prop} {all : Array Oper} {rest : List Oper} {cur : Cur}
def LnR (B : RL) (r r' : Res) : Prop := ∀ M ρ w i, HasAll M ρ w B → HoldsR M ρ w i r → HoldsR (lentN M ρ w B) ρ w i r'
theorem LnR.box {B : RL} {vs vs' : List V} (h : LnVs B vs vs') : LnR B (.box vs) (.box vs') := fun _ _ _ _ hr ⟨b, cs, el, e1, e2, e3⟩ => ⟨b, cs, el, e1, e2, h _ _ _ _ hr e3⟩
def upN (B : RL) (tab : Tab) : List (Nat × Res) → Prop
  | [] => True
  | (i, r') :: l => (∃ r, tg tab i = some r ∧ (hasB i B.ids = false ∧ LnR B r r')) ∧ upN B tab l
end
end Hw
