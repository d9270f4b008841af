/- The engine and the contracts. -/
import Derived.Test.YtmnhegkogibipaaGreatDoorC14
set_option linter.unusedVariables false
set_option linter.unusedSimpArgs false
namespace Hw.Z
open Go Go.Proofs Hw.M

def upTo (n : Nat) : List Int := (List.range n).map fun i => ((i : Nat) : Int) + 1
theorem upTo_len (n : Nat) : (upTo n).length = n := by simp [upTo]
theorem upTo_at {n i : Nat} {x : Int} (h : (upTo n)[i]? = some x) : x = (i : Int) + 1 := by
  simp only [upTo, List.getElem?_map, Option.map_eq_some_iff] at h
  obtain ⟨j, hj, rfl⟩ := h
  have hlt := (List.getElem?_eq_some_iff.1 hj).1
  rw [List.length_range] at hlt
  rw [List.getElem?_range hlt] at hj
  rw [Option.some.inj hj]
set_option maxHeartbeats 4000000 in
theorem heapCanonical_ok (d : Desc) (m : Hp) (ord : List UInt8) : FnOK Tryz.prog 8 [aggS (descR d), aggS (memR m), pS (.sl 1 (ord.map u8R))] [] (.bq true) [] := by
  have hL := large_ok d [m]
  have hV := valid12_ok d m
  cases hg : (greatS d || [m].any manyS) with
  | true =>
    rw [hg] at hL
    refine fn_ok T Tryz.func8 (by kernel_rfl) rfl rfl rfl rfl fun C hC => ?_
    repeat' first
      | refine g_go T hC true 400 rfl rfl ?_
      | refine g_cond rfl (fun h => ?_) (fun h => ?_)
      | refine g_end T hC (by kernel_rfl) ?_
      | refine g_splitD (fun h => ?_) (fun h => ?_)
      | refine g_splitG rfl rfl rfl (fun h => ?_) (fun h => ?_)
      | refine g_splitP rfl rfl (fun h => ?_) (fun h => ?_)
      | refine g_call hC (awake_ok) rfl rfl (LeSs.refl _) rfl rfl rfl ?_
      | refine g_lit T hC rfl rfl rfl rfl rfl rfl rfl rfl rfl ?_
      | refine g_call hC (hL) rfl rfl (LeSs.refl _) rfl rfl rfl ?_
      | refine g_call hC (hV) rfl rfl (LeSs.refl _) rfl rfl rfl ?_
      | refine g_retq T (.inl rfl) rfl ?_
      | refine g_retl T (.inl rfl) rfl ?_
    all_goals clear hL hV
    all_goals first | rfl | (exfalso; simp_all; done)
  | false =>
  rw [hg] at hL
  by_cases h50 : 50 < m.n.length
  · refine fn_ok T Tryz.func8 (by kernel_rfl) rfl rfl rfl rfl fun C hC => ?_
    repeat' first
      | refine g_go T hC true 400 rfl rfl ?_
      | refine g_cond rfl (fun h => ?_) (fun h => ?_)
      | refine g_end T hC (by kernel_rfl) ?_
      | refine g_splitD (fun h => ?_) (fun h => ?_)
      | refine g_splitG rfl rfl rfl (fun h => ?_) (fun h => ?_)
      | refine g_splitP rfl rfl (fun h => ?_) (fun h => ?_)
      | refine g_call hC (awake_ok) rfl rfl (LeSs.refl _) rfl rfl rfl ?_
      | refine g_lit T hC rfl rfl rfl rfl rfl rfl rfl rfl rfl ?_
      | refine g_call hC (hL) rfl rfl (LeSs.refl _) rfl rfl rfl ?_
      | refine g_call hC (hV) rfl rfl (LeSs.refl _) rfl rfl rfl ?_
      | refine g_retq T (.inl rfl) rfl ?_
      | refine g_retl T (.inl rfl) rfl ?_
    all_goals clear hL hV
    all_goals first | rfl | (exfalso; simp only [List.length_map, decide_eq_false_iff_not] at *; omega) | (exfalso; simp_all; done)
  cases hval : validM d m with
  | false =>
    rw [hval] at hV
    refine fn_ok T Tryz.func8 (by kernel_rfl) rfl rfl rfl rfl fun C hC => ?_
    repeat' first
      | refine g_go T hC true 400 rfl rfl ?_
      | refine g_cond rfl (fun h => ?_) (fun h => ?_)
      | refine g_end T hC (by kernel_rfl) ?_
      | refine g_splitD (fun h => ?_) (fun h => ?_)
      | refine g_splitG rfl rfl rfl (fun h => ?_) (fun h => ?_)
      | refine g_splitP rfl rfl (fun h => ?_) (fun h => ?_)
      | refine g_call hC (awake_ok) rfl rfl (LeSs.refl _) rfl rfl rfl ?_
      | refine g_lit T hC rfl rfl rfl rfl rfl rfl rfl rfl rfl ?_
      | refine g_call hC (hL) rfl rfl (LeSs.refl _) rfl rfl rfl ?_
      | refine g_call hC (hV) rfl rfl (LeSs.refl _) rfl rfl rfl ?_
      | refine g_retq T (.inl rfl) rfl ?_
      | refine g_retl T (.inl rfl) rfl ?_
    all_goals clear hL hV
    all_goals first | rfl | (exfalso; simp_all; done)
  | true =>
  rw [hval] at hV
  have hmm : manyS m = false := by
    simp only [List.any_cons, List.any_nil, Bool.or_false, Bool.or_eq_false_iff] at hg
    exact hg.2
  have hcv := canon_valid hval
  have hcm := canon_many hval hmm
  have hmo := moved_valid hval (by omega) ord
  have hcc := canon_canon hval
  have hco := canon_order hval
  have hmc := moved_canon hval ord
  have hMv := moved_ok hval (by omega) ord
  have hCx := canon_ok hmo
  rw [hmc] at hCx
  have hS1 := same_ok hval hmo
  rw [hmc, decide_eq_true rfl] at hS1
  have hS2 := same_ok hcv hval
  rw [hcc, decide_eq_true rfl] at hS2
  have hCa := canon_ok hval
  have hCc := canon_ok hcv
  rw [hcc] at hCc
  have hRe := reachable_ok hcv
  rw [hco] at hRe
  have hcl : (canonS d m (searchS d m)).n.length = (searchS d m).order.length := by simp only [canonS, List.length_map]
  change FnOK _ _ _ _ (.tup [pS (intsP (upTo (searchS d m).order.length)), I 0]) _ at hRe
  rw [← hcl] at hRe
  have hV2 := valid12_ok d (canonS d m (searchS d m))
  rw [hcv] at hV2
  have hM2 := many_ok (canonS d m (searchS d m))
  rw [hcm] at hM2
  have hQ := equal_ok (canonS d m (searchS d m)) (canonS d m (searchS d m))
  rw [decide_eq_true rfl] at hQ
  have hcl60 : (canonS d m (searchS d m)).n.length ≤ 60 := by
    have := hcm
    simp only [manyS, Bool.or_eq_false_iff, decide_eq_false_iff_not] at this
    omega
  clear hcc hco hmc hcl hmm hcm
  generalize canonS d m (searchS d m) = c at *
  have hul : ((upTo c.n.length).map intR).length = c.n.length := by rw [List.length_map, upTo_len]
  refine fn_ok T Tryz.func8 (by kernel_rfl) rfl rfl rfl rfl fun C hC => ?_
  repeat' first
    | refine g_go T hC true 400 rfl rfl ?_
    | refine g_cond rfl (fun h => ?_) (fun h => ?_)
    | refine g_end T hC (by kernel_rfl) ?_
    | refine g_splitD (fun h => ?_) (fun h => ?_)
    | refine g_splitG rfl rfl rfl (fun h => ?_) (fun h => ?_)
    | refine g_splitP rfl rfl (fun h => ?_) (fun h => ?_)
    | refine g_call hC (awake_ok) rfl rfl (LeSs.refl _) rfl rfl rfl ?_
    | refine g_lit T hC rfl rfl rfl rfl rfl rfl rfl rfl rfl ?_
    | refine g_call hC (hL) rfl rfl (LeSs.refl _) rfl rfl rfl ?_
    | refine g_call hC (hV) rfl rfl (LeSs.refl _) rfl rfl rfl ?_
    | refine g_call hC (hCa) rfl rfl (LeSs.refl _) rfl rfl rfl ?_
    | refine g_call hC (hM2) rfl rfl (LeSs.refl _) rfl rfl rfl ?_
    | refine g_call hC (hV2) rfl rfl (LeSs.refl _) rfl rfl rfl ?_
    | refine g_call hC (hCc) rfl rfl (LeSs.refl _) rfl rfl rfl ?_
    | refine g_call hC (hRe) rfl rfl (LeSs.refl _) rfl rfl rfl ?_
    | refine g_call hC (hQ) rfl rfl (LeSs.refl _) rfl rfl rfl ?_
    | refine g_retl T (.inl rfl) rfl ?_
  all_goals first
    | (exfalso; cases h; done)
    | (exfalso; simp only [List.length_map, decide_eq_true_eq, decide_eq_false_iff_not] at *; omega)
    | (exfalso; simp_all; done)
    | (exfalso; clear hL hV hCa hM2 hV2 hCc hRe hQ hS1 hS2 hMv hCx; simp only [hul, List.length_map] at h; simp at h; done)
    | skip
  refine g_loop (fun i : Nat => i ≤ c.n.length) (fun i => ([(2, pS (.sl 1 (ord.map u8R))), (3, .one (.bx 1003 0)), (4, .one (.bx 1004 0)), (7, .one (.bx 1007 0)), (90, pS (intsP (upTo c.n.length))), (91, I c.n.length), (92, I i)],
      [(1003, some (Res.box ((descR d).map V.p))), (1004, some (Res.box ((memR m).map V.p))), (1007, some (Res.box ((memR c).map V.p)))])) (fun i => c.n.length - i) hC
    0 (Nat.zero_le _) id ⟨rfl, ⟨rfl, rfl, rfl, rfl, rfl, congrArg (fun q : Nat => some (I (q : Int))) hul, rfl, trivial⟩, ⟨rfl, rfl, rfl, trivial⟩, rfl, fun _ _ => rfl⟩ ?_
  intro i hi
  refine g_run' T hC true 200 rfl ?_
  refine g_cond rfl (fun h => ?_) (fun h => ?_)
  · have hlt : i < c.n.length := by simpa using h
    clear h
    obtain ⟨x, hx⟩ := exists_at (l := upTo c.n.length) (i := i) (by rw [upTo_len]; exact hlt)
    have hxe := upTo_at hx
    subst hxe
    repeat' first
      | refine g_go T hC true 400 rfl rfl ?_
      | refine g_cond rfl (fun h => ?_) (fun h => ?_)
      | refine g_end T hC (by kernel_rfl) ?_
      | refine g_splitD (fun h => ?_) (fun h => ?_)
      | refine g_splitG rfl rfl rfl (fun h => ?_) (fun h => ?_)
      | refine g_splitP rfl rfl (fun h => ?_) (fun h => ?_)
      | refine g_idx T hC rfl rfl rfl (Int.natCast_nonneg _) (map_at (by assumption)) rfl rfl ?_
      | refine g_outR ?_
      | refine g_retl T (.inl rfl) rfl ?_
    all_goals first
      | (exfalso; rw [wrap64 (by omega)] at h; simp at h; done)
      | skip
    rw [wrapS (by omega)]
    exact g_round (i + 1) (by omega) id (by omega) ⟨rfl, ⟨rfl, rfl, rfl, rfl, rfl, rfl, rfl, trivial⟩, ⟨rfl, rfl, rfl, trivial⟩, rfl, fun _ _ => rfl⟩
  · clear h
    repeat' first
      | refine g_go T hC true 400 rfl rfl ?_
      | refine g_cond rfl (fun h => ?_) (fun h => ?_)
      | refine g_end T hC (by kernel_rfl) ?_
      | refine g_splitD (fun h => ?_) (fun h => ?_)
      | refine g_splitG rfl rfl rfl (fun h => ?_) (fun h => ?_)
      | refine g_splitP rfl rfl (fun h => ?_) (fun h => ?_)
      | refine g_outE ?_
      | refine g_call hC (hMv) rfl rfl (LeSs.refl _) rfl rfl rfl ?_
      | refine g_call hC (hCx) rfl rfl (LeSs.refl _) rfl rfl rfl ?_
      | refine g_call hC (hS1) rfl rfl (LeSs.refl _) rfl rfl rfl ?_
      | refine g_call hC (hS2) rfl rfl (LeSs.refl _) rfl rfl rfl ?_
      | refine g_call hC (hQ) rfl rfl (LeSs.refl _) rfl rfl rfl ?_
      | refine g_retq T (.inl rfl) rfl ?_
      | refine g_retl T (.inl rfl) rfl ?_
    all_goals first | rfl | (exfalso; simp_all; done)
end Hw.Z
