/- The engine and the contracts. -/
import Derived.Test.YtmnhegkogibipaaGreatDoorC1
import Derived.Test.YtmnhegkogibipaaGreatDoorE3
import Derived.Test.YtmnhegkogibipaaGreatDoorC10
import Derived.Lib.ItoaMem
set_option linter.unusedVariables false
set_option linter.unusedSimpArgs false
namespace Hw.Z
open Go Go.Proofs Go.Shelf Hw.M

/-! Numbers as bytes -/
def decB (u : Nat) : Str := ⟨(Lib.decDigits u).toArray⟩
def itoaB (n : Int) : Str := ⟨(Lib.itoa n).toArray⟩
theorem decB_size (u : Nat) : (decB u).size = Lib.nDigits u := by
  rw [← Lib.decDigits_length]; simp [decB, ByteArray.size]
theorem nDigits_le {u : Nat} (h : u < 18446744073709551616) : Lib.nDigits u ≤ 20 := by
  rcases Nat.eq_zero_or_pos u with rfl | h1
  · rw [Lib.nDigits_small (by omega)]; omega
  · have := Lib.numDigits_eq u h1 h
    split at this <;> omega
theorem itoaB_nonneg {n : Int} (h : 0 ≤ n) : itoaB n = decB n.toNat := by simp only [itoaB, Lib.itoa, if_neg (show ¬ n < 0 by omega), decB]
theorem itoaB_neg {n : Int} (h : n < 0) : itoaB n = (⟨#[45]⟩ : Str) ++ decB n.natAbs := by
  simp only [itoaB, Lib.itoa, if_pos h, decB]
  apply ByteArray.ext
  rw [ByteArray.data_append]
  apply Array.toList_inj.1
  simp
abbrev u64 (n : Int) : S := .one (.p (.k (.int .u64 n)))
theorem callOK {f : FuncId} {fn : Func} (h : Tryz.prog.funcs[f]? = some fn) (h1 : (fn.name == "runtime.NumGoroutine") = false) (h2 : fn.body.isNone = false) : CallOK Tryz.prog f := ⟨fn, h, h1, h2⟩
theorem len64_ok (u : Nat) (h : u < 18446744073709551616) : FnOK Tryz.prog 227 [u64 u] [] (I (Lib.bitLen u)) [] :=
  fn_pure1 (callOK Tryz.func227 (by kernel_rfl) (by kernel_rfl)) (fun w => (Any.bits_Len64 laysLen (u : Int) w (by omega) (by omega)).mono fun e w' ⟨h1, h2⟩ => ⟨by simpa using h1, h2⟩) rfl
theorem log10_ok (x : Nat) (h : x ≤ 64) : FnOK Tryz.prog 251 [I x] [] (I (Lib.l10 x)) [] :=
  fn_pure1 (callOK Tryz.func251 (by kernel_rfl) (by kernel_rfl)) (fun w => Any.internal_strconv_log10Pow2 laysLog x h w) rfl
theorem small_ok (i : Nat) (h : i < 100) : FnOK Tryz.prog 230 [I i] [] (Sr (decB i)) [] :=
  fn_pure1 (callOK Tryz.func230 (by kernel_rfl) (by kernel_rfl)) (fun w => Any.internal_strconv_small laysSmall i h w) rfl
theorem bool2_ok (b : Bool) : FnOK Tryz.prog 252 [.bq b] [] (I (if b = true then 1 else 0)) [] := by
  refine fn_ok T Tryz.func252 (by kernel_rfl) rfl rfl rfl rfl fun C hC => ?_
  repeat' first
    | refine g_go T hC true 400 rfl rfl ?_
    | refine g_cond rfl (fun h => ?_) (fun h => ?_)
    | refine g_end T hC (by kernel_rfl) ?_
    | refine g_splitD (fun h => ?_) (fun h => ?_)
    | refine g_splitG rfl rfl rfl (fun h => ?_) (fun h => ?_)
    | refine g_splitP rfl rfl (fun h => ?_) (fun h => ?_)
  all_goals simp only [h, if_true, Bool.false_eq_true, if_false]
  all_goals exact g_fin ⟨.inl rfl, id, _, rfl, .refl _, trivial, rfl, rfl⟩
def powR : List PV := (List.range 20).map fun i => .k (.int .u64 ((10 ^ i : Nat) : Int))
theorem powIn (M : Mem) (h : MLe G0 M) : RowIn M (M 0) powR 0 := by
  have key : ∀ (l : List PV) (o : Nat), (∀ j p, l[j]? = some p → ∃ c, M 0 (o + j) = some c ∧ RepPV M p c) → RowIn M (M 0) l o := by
    intro l
    induction l with
    | nil => intro o _; simp only [RowIn]
    | cons a l ih =>
      intro o hl
      simp only [RowIn]
      exact ⟨by simpa using hl 0 a rfl, ih (o + 1) fun j p hj => by have := hl (j + 1) p (by simpa using hj); rwa [show o + 1 + j = o + (j + 1) by omega]⟩
  refine key powR 0 fun j p hj => ?_
  simp only [powR, List.getElem?_map, Option.map_eq_some_iff] at hj
  obtain ⟨i, hi, rfl⟩ := hj
  have hlt := (List.getElem?_eq_some_iff.1 hi).1
  rw [List.length_range] at hlt
  rw [List.getElem?_range hlt] at hi
  obtain rfl := Option.some.inj hi
  refine ⟨.int .u64 ((10 ^ j : Nat) : Int), h _ _ _ ?_, by simp only [RepPV]; exact ⟨trivial, rfl⟩⟩
  rw [Nat.zero_add]
  simp [G0, hlt]
theorem numDigits_ok (u : Nat) (h1 : 1 ≤ u) (h2 : u < 18446744073709551616) : FnOK Tryz.prog 231 [u64 u] [] (I (Lib.nDigits u)) [] := by
  obtain ⟨hd, hq⟩ := Lib.numDigits_eq u h1 h2
  have hL : Lib.bitLen u ≤ 64 := Lib.bitLen_le u 64 (Nat.le_refl _) h2
  have hl := len64_ok u h2
  have hg := log10_ok (Lib.bitLen u) hL
  generalize Lib.l10 (Lib.bitLen u) = q at *
  have hp : powR[((q : Nat) : Int).toNat]? = some (.k (.int .u64 ((10 ^ q : Nat) : Int))) := by
    simp only [Int.toNat_natCast, powR, List.getElem?_map, List.getElem?_range (show q < 20 by omega), Option.map_some]
  have hb := bool2_ok (decide ((((10 ^ q : Nat) : Nat) : Int) ≤ (u : Int)))
  refine fn_ok T Tryz.func231 (by kernel_rfl) rfl rfl rfl rfl fun C hC => ?_
  repeat' first
    | refine g_go T hC true 400 rfl rfl ?_
    | refine g_cond rfl (fun h => ?_) (fun h => ?_)
    | refine g_end T hC (by kernel_rfl) ?_
    | refine g_splitD (fun h => ?_) (fun h => ?_)
    | refine g_splitG rfl rfl rfl (fun h => ?_) (fun h => ?_)
    | refine g_splitP rfl rfl (fun h => ?_) (fun h => ?_)
    | refine g_call hC (hl) rfl rfl (LeSs.refl _) rfl rfl rfl ?_
    | refine g_call hC (hg) rfl rfl (LeSs.refl _) rfl rfl rfl ?_
    | (refine g_idxG hC (len := 20) (el := 220) rfl (by kernel_rfl) (by kernel_rfl) powIn (Int.natCast_nonneg _) (by omega) hp rfl rfl ?_)
    | refine g_call hC (hb) rfl rfl (LeSs.refl _) rfl rfl rfl ?_
  have e : IntKind.i64.wrap ((q : Int) + (if decide ((((10 ^ q : Nat) : Nat) : Int) ≤ (u : Int)) = true then 1 else 0)) = (Lib.nDigits u : Int) := by
    rw [← hd]
    by_cases hc : 10 ^ q ≤ u
    · rw [if_pos (decide_eq_true (Int.ofNat_le.2 hc)), if_pos hc, wrap64 (by omega)]; rfl
    · rw [if_neg (by rw [decide_eq_true_eq]; exact fun h => hc (Int.ofNat_le.1 h)), if_neg hc, wrap64 (by omega)]; rfl
  exact g_reti T (.inl rfl) rfl e
abbrev b8 (c : UInt8) : Value := .int .u8 c.toNat
abbrev cK (v : Value) : V := .p (.k v)
def fmtC (u : Nat) : List Value := (Lib.decDigits u).map b8 ++ List.replicate (24 - Lib.nDigits u) (b8 0)
theorem cK_vals {M : Mem} {ρ : Nat → Value} : ∀ {l cs : List Value}, RepVs M ρ (l.map cK) cs → cs = l
  | [], [], _ => rfl
  | [], _ :: _, h => by simp [RepVs] at h
  | _ :: _, [], h => by simp [RepVs] at h
  | v :: l, c :: cs, h => by
    simp only [List.map_cons, RepVs, RepV, RepPV] at h
    rw [cK_vals h.2, h.1.1]
theorem fmt10_ok (u : Nat) (h2 : u < 18446744073709551616) : FnOK Tryz.prog 232 [.one (.bs 0 0 (Lib.nDigits u)), u64 u] [(0, .box ((List.replicate 24 (b8 0)).map cK))] (.tup []) [(0, .box ((fmtC u).map cK))] := by
  have hnd := nDigits_le h2
  generalize hn : Lib.nDigits u = n at *
  refine ⟨callOK Tryz.func232 (by kernel_rfl) (by kernel_rfl), fun M ρ w xs hx hT hI hG => ?_⟩
  match xs, hx with
  | [x0, x1], hx =>
    simp only [RepSs, RepS, RepV, RepPV] at hx
    obtain ⟨⟨b, c, f1, rfl, _⟩, ⟨rfl, _⟩, _⟩ := hx
    obtain ⟨b', cs, el, g1, g2, g3⟩ := hT.res 0 _ rfl
    rw [f1] at g1
    simp only [Value.pointer.injEq, Option.some.injEq, Addr.mk.injEq] at g1
    obtain ⟨rfl, _⟩ := g1
    have hcs := cK_vals g3
    subst hcs
    have hlt : b < w.heap.size := by
      rcases Nat.lt_or_ge b w.heap.size with h | h
      · exact h
      · rw [Array.getElem?_eq_none h] at g2; cases g2
    have hH : Go.Sort.Holds (fun (b : UInt8) => Value.int .u8 (b.toNat : Int)) w b 0 (Array.replicate n 0) := fun j hj => by
      rw [Array.size_replicate] at hj
      refine ⟨?_, by simp [World.frozen?, g2]⟩
      have : (List.replicate 24 (b8 0)).toArray[j]? = some (b8 0) := by rw [List.getElem?_toArray, List.getElem?_replicate, if_pos (by omega)]
      have e0 : (Array.replicate n (0 : UInt8))[j]! = 0 := by simp [hj]
      rw [e0, Nat.zero_add]
      simp only [World.cell?, g2, Option.isSome_none, Bool.false_eq_true, if_false]; exact this
    have hc := Any.internal_strconv_formatBase10 laysFmt b 0 c u (Array.replicate n 0) w hH (by rw [Array.size_replicate, ← hn]; exact Lib.lt_pow_nDigits u) h2 (by rw [Array.size_replicate]; omega)
    rw [Array.size_replicate] at hc
    refine hc.mono ?_
    rintro e w' ⟨he, k, v', dk, rfl, hF⟩
    have hds := hF.size
    have hdl : (Lib.decDigits u).length = n := by rw [Lib.decDigits_length, hn]
    have hfl : (fmtC u).length = 24 := by simp only [fmtC, List.length_append, List.length_map, List.length_replicate, hdl, hn]; omega
    have hput : Go.Sort.putCells (fun (b : UInt8) => Value.int .u8 (b.toNat : Int)) 0 dk (List.replicate 24 (b8 0)).toArray = (fmtC u).toArray := by
      apply Array.ext
      · simp only [Go.Sort.putCells, Array.size_mapIdx, List.size_toArray, List.length_replicate, hfl]
      · intro j hj1 hj2
        simp only [List.size_toArray, hfl] at hj2
        simp only [Go.Sort.putCells, Array.getElem_mapIdx, List.getElem_toArray]
        by_cases hjn : j < n
        · rw [if_pos ⟨Nat.zero_le _, by omega⟩]
          have e1 : (fmtC u)[j]? = some (b8 (dk[j]!)) := by
            have e2 := Lib.row_is_numeral (u := u) (by rw [hn]; exact hF) j (by omega)
            rw [fmtC, List.getElem?_append_left (by rw [List.length_map, hdl]; exact hjn), List.getElem?_map, List.getElem?_eq_getElem (by omega), e2]; rfl
          have := (List.getElem?_eq_some_iff.1 e1).2
          rw [this]; simp only [Nat.sub_zero]
        · rw [if_neg (by omega)]
          have e1 : (fmtC u)[j]? = some (b8 0) := by
            rw [fmtC, List.getElem?_append_right (by rw [List.length_map, hdl]; omega), List.length_map, hdl, List.getElem?_replicate, if_pos (by rw [hn]; omega)]
          have := (List.getElem?_eq_some_iff.1 e1).2
          rw [this]; exact List.getElem_replicate ..
    have hB : ((Go.Sort.putRow (fun (b : UInt8) => Value.int .u8 (b.toNat : Int)) w b 0 dk).drewN k).heap[b]? = some (.cells (fmtC u).toArray el (0, 0)) := by
      show (w.heap.modify b (Go.Sort.onCells (Go.Sort.putCells _ 0 dk)))[b]? = _
      rw [Array.getElem?_modify, if_pos rfl, g2]
      simp only [Option.map_some, Go.Sort.onCells, hput]
    have hO : ∀ k', k' ≠ b → ((Go.Sort.putRow (fun (b : UInt8) => Value.int .u8 (b.toNat : Int)) w b 0 dk).drewN k).heap[k']? = w.heap[k']? := fun k' hk' => by
      show (w.heap.modify b (Go.Sort.onCells (Go.Sort.putCells _ 0 dk)))[k']? = _
      rw [Array.getElem?_modify, if_neg (fun e => hk' e.symm)]
    have hMb : ∀ o, M b o = none := hT.own 0 _ b rfl (by rw [f1]; rfl)
    have only : ∀ i r, tg (tb [(0, Res.box ((fmtC u).map cK))]) i = some r → i = 0 ∧ r = .box ((fmtC u).map cK) := fun i r hi => by
      simp only [tb, tg_cons] at hi
      split at hi
      · rename_i e'; exact ⟨e'.symm, (Option.some.inj hi).symm⟩
      · cases hi
    have h1c : (fmtC u).all Value.oneCell' = true := by
      rw [List.all_eq_true]
      intro v hv
      simp only [fmtC, List.mem_append, List.mem_map] at hv
      rcases hv with ⟨d, _, rfl⟩ | hv
      · rfl
      · rw [List.eq_of_mem_replicate hv]; rfl
    refine ⟨_, M, ρ, he, by simp only [RepS]; exact ⟨[], rfl, by simp only [RepSs]⟩, ⟨fun i r hi => ?_, fun i j ri rj b' hi hj hne _ _ => ?_, fun i r b' hi hb o => ?_⟩, fun b' o v hv => ?_, MLe.refl M, fun b' o v hv => .inl hv, fun b' hb => ?_, fun b' hb hn => ?_, ?_, rfl, rfl, rfl, fun id hid => rfl⟩
    · obtain ⟨rfl, rfl⟩ := only i r hi
      exact ⟨b, fmtC u, el, f1, hB, RepVs_consts _ h1c⟩
    · obtain ⟨rfl, _⟩ := only i ri hi
      obtain ⟨rfl, _⟩ := only j rj hj
      exact (hne rfl).elim
    · obtain ⟨rfl, _⟩ := only i r hi
      rw [f1] at hb; simp only [blk, Option.some.injEq] at hb; subst hb; exact hMb o
    · have hne : b' ≠ b := fun e => by subst e; rw [hMb o] at hv; cases hv
      rw [cell_of_heap (hO b' hne)]; exact hI b' o v hv
    · obtain ⟨i, r, hi, hb⟩ := hb
      obtain ⟨rfl, _⟩ := only i r hi
      exact .inr ⟨0, _, rfl, hb⟩
    · refine hO b' fun e => hn ⟨0, _, rfl, ?_⟩
      rw [f1, e]; rfl
    · show w.heap.size ≤ (w.heap.modify b _).size
      simp
  | [], hx => simp [RepSs] at hx
  | [_], hx => simp [RepSs] at hx
  | _ :: _ :: _ :: _, hx => simp [RepSs] at hx
end Hw.Z
namespace Hw.Z
open Go Go.Proofs Go.Shelf Hw.M

abbrev bA (i : Nat) (s : Str) : RL := [(i, .arr 1 (bytesR s))]
theorem bytesR_decB (u : Nat) : bytesR (decB u) = (Lib.decDigits u).map fun b => [PV.k (b8 b)] := rfl
theorem fmt_take (u : Nat) : ((fmtC u).map cK).take (Lib.nDigits u * 1) = (bytesR (decB u)).flatten.map V.p := by
  have hdl := Lib.decDigits_length u
  rw [bytesR_decB, Nat.mul_one]
  have e : ∀ l : List UInt8, (l.map fun b => [PV.k (b8 b)]).flatten.map V.p = (l.map b8).map cK := fun l => by
    induction l with
    | nil => rfl
    | cons a l ih => simp only [List.map_cons, List.flatten_cons, List.singleton_append, ih]
  rw [e, fmtC, List.map_append, List.take_left' (by rw [List.length_map, List.length_map, hdl])]
/-- The same, cell by cell. -/
def fmtV (u : Nat) : List V := (List.range 24).map fun i => cK (((fmtC u)[i]?).getD (b8 0))
theorem fmtC_len (u : Nat) (h : u < 18446744073709551616) : (fmtC u).length = 24 := by
  have := nDigits_le h
  simp only [fmtC, List.length_append, List.length_map, List.length_replicate, Lib.decDigits_length]; omega
theorem fmtV_eq (u : Nat) (h : u < 18446744073709551616) : fmtV u = (fmtC u).map cK := by
  have hl := fmtC_len u h
  apply List.ext_getElem?
  intro i
  simp only [fmtV, List.getElem?_map]
  by_cases hi : i < 24
  · have e := List.getElem?_eq_getElem (l := fmtC u) (i := i) (by omega)
    rw [List.getElem?_range hi, Option.map_some, e]; rfl
  · rw [List.getElem?_eq_none (by rw [List.length_range]; omega), List.getElem?_eq_none (by omega)]; rfl
theorem appendUint_ok (s : Str) (u : Nat) (h2 : u < 18446744073709551616) (hs : s.size ≤ 1000000) :
    FnOK Tryz.prog 190 [.one (.ar 0), u64 u, I 10] (bA 0 s) (.one (.ar 1)) (bA 1 (s ++ decB u)) := by
  have hnd := nDigits_le h2
  have hsl := bytesR_len s
  have hdl : (bytesR (decB u)).length = Lib.nDigits u := by rw [bytesR_len, decB_size]
  by_cases h : u < 100
  · have hS := small_ok u h
    refine fn_ok T Tryz.func190 (by kernel_rfl) rfl rfl rfl rfl fun C hC => ?_
    repeat' first
      | refine g_go T hC true 400 rfl rfl ?_
      | refine g_cond rfl (fun h => ?_) (fun h => ?_)
      | refine g_end T hC (by kernel_rfl) ?_
      | refine g_splitD (fun h => ?_) (fun h => ?_)
      | refine g_splitG rfl rfl rfl (fun h => ?_) (fun h => ?_)
      | refine g_splitP rfl rfl (fun h => ?_) (fun h => ?_)
      | (rw [wrap64 (by omega)]; refine g_call hC hS rfl rfl (LeSs.refl _) rfl rfl rfl ?_)
      | (refine g_append T 101 hC (rows := bytesR s) (rows2 := bytesR (decB u)) (rows3 := bytesR (s ++ decB u)) (bytes := 1) rfl rfl rfl rfl (SrcS.str (by kernel_rfl)) (bytesR_append _ _).symm rfl rfl rfl (by kernel_rfl) (by rw [hsl, hdl]; omega) (by rw [hsl, hdl]; omega) rfl rfl rfl ?_)
    all_goals first
      | (exfalso; simp only [decide_eq_true_eq, decide_eq_false_iff_not] at *; omega)
      | (exfalso; exact absurd h (by decide))
      | exact g_fin ⟨.inl rfl, nm [0, 101], _, rfl, .refl _, ⟨rfl, trivial⟩, rfl, rfl⟩
  · have hN := numDigits_ok u (by omega) h2
    have hF := fmt10_ok u h2
    have hft := fmt_take u
    rw [← fmtV_eq u h2] at hF hft
    refine fn_ok T Tryz.func190 (by kernel_rfl) rfl rfl rfl rfl fun C hC => ?_
    repeat' first
      | refine g_go T hC true 400 rfl rfl ?_
      | refine g_cond rfl (fun h => ?_) (fun h => ?_)
      | refine g_end T hC (by kernel_rfl) ?_
      | refine g_splitD (fun h => ?_) (fun h => ?_)
      | refine g_splitG rfl rfl rfl (fun h => ?_) (fun h => ?_)
      | refine g_splitP rfl rfl (fun h => ?_) (fun h => ?_)
      | refine g_call hC (hN) rfl rfl (LeSs.refl _) rfl rfl rfl ?_
      | (refine g_slA hC (Lib.nDigits u) (len := 24) (el := 5) rfl rfl rfl (by kernel_rfl) (by kernel_rfl) (by omega) rfl rfl ?_)
      | refine g_callR hC (hF) (nm [1007]) rfl rfl (LeSs.refl _) rfl rfl rfl rfl rfl rfl rfl rfl ?_
      | (refine g_append T 101 hC (rows := bytesR s) (rows2 := bytesR (decB u)) (rows3 := bytesR (s ++ decB u)) (bytes := 1) rfl rfl rfl rfl (SrcS.bs (T.es_ok _ _ rfl) hft (bytesR_one _) hdl) (bytesR_append _ _).symm rfl rfl rfl (by kernel_rfl) (by rw [hsl, hdl]; omega) (by rw [hsl, hdl]; omega) rfl rfl rfl ?_)
    all_goals first
      | (exfalso; simp only [decide_eq_true_eq, decide_eq_false_iff_not] at *; omega)
      | (exfalso; exact absurd h (by decide))
      | exact g_fin ⟨.inl rfl, nm [0, 101], _, rfl, .refl _, ⟨rfl, trivial⟩, rfl, rfl⟩
end Hw.Z
