/- The engine and the contracts. -/
import Derived.Test.YtnijeifpjjeccaaGreatC17
set_option linter.unusedVariables false
set_option linter.unusedSimpArgs false
namespace Hw.Mz
open Go Go.Proofs Go.Shelf Hw.M

/-! models: the reference's partitions, joined -/

theorem rset5 (R : Rws) (hR : R.length ≤ 500) (hT : SetsOk R)  : FnOK Tryz.prog 40 [aggS (stR 4 R), aggS [ki 5, intsP []]] [] (.tup [aggS (stR 4 R), aggS (rsR (okR R.length))]) [] := by
  have hlm : (R.map rowR).length = R.length := List.length_map _
  have hSz := size_ok R hR hT.tot
  have hw : ∀ r ∈ R, r.length ≤ 500 := fun r hr => by obtain ⟨i, hi⟩ := List.mem_iff_getElem?.1 hr; exact hT.rowLen hi
  have hY := yield_ok 4 R R.length
  clear hT
  refine fn_ok T Tryz.func40 (by kernel_rfl) rfl rfl rfl rfl fun C hC => ?_
  repeat' first
    | refine g_go T hC true 400 rfl rfl ?_
    | (exfalso; simp at h; done)
    | refine g_cond rfl (fun h => ?_) (fun h => ?_)
    | refine g_end T hC (by kernel_rfl) ?_
    | refine g_splitD (fun h => ?_) (fun h => ?_)
    | refine g_splitG rfl rfl rfl (fun h => ?_) (fun h => ?_)
    | refine g_splitP rfl rfl (fun h => ?_) (fun h => ?_)
    | refine g_call hC (hSz) rfl rfl (LeSs.refl _) rfl rfl rfl ?_
    | (rw [hlm]; refine g_call hC hY rfl rfl (LeSs.refl _) rfl rfl rfl ?_)
  all_goals exact g_fin ⟨.inl rfl, id, _, rfl, .refl _, trivial, rfl, rfl⟩

theorem rset1f (R : Rws) (hR : R.length ≤ 500) (hT : SetsOk R) (h5 : R.flatten.length = 500) : FnOK Tryz.prog 40 [aggS (stR 4 R), aggS [ki 1, intsP []]] [] (.tup [aggS (stR 4 R), aggS (rsR (erR 4))]) [] := by
  have hlm : (R.map rowR).length = R.length := List.length_map _
  have hSz := size_ok R hR hT.tot
  have hw : ∀ r ∈ R, r.length ≤ 500 := fun r hr => by obtain ⟨i, hi⟩ := List.mem_iff_getElem?.1 hr; exact hT.rowLen hi
  have hY := fail_ok 4 R 4
  clear hT
  refine fn_ok T Tryz.func40 (by kernel_rfl) rfl rfl rfl rfl fun C hC => ?_
  repeat' first
    | refine g_go T hC true 400 rfl rfl ?_
    | (exfalso; first | (simp only [decide_eq_true_eq, decide_eq_false_iff_not, List.length_map, Bool.not_eq_true', Bool.not_eq_false'] at *; omega) | (simp at h; done))
    | (exfalso; simp at h; done)
    | refine g_cond rfl (fun h => ?_) (fun h => ?_)
    | refine g_end T hC (by kernel_rfl) ?_
    | refine g_splitD (fun h => ?_) (fun h => ?_)
    | refine g_splitG rfl rfl rfl (fun h => ?_) (fun h => ?_)
    | refine g_splitP rfl rfl (fun h => ?_) (fun h => ?_)
    | refine g_call hC (hSz) rfl rfl (LeSs.refl _) rfl rfl rfl ?_
    | refine g_call hC (hY) rfl rfl (LeSs.refl _) rfl rfl rfl ?_
  all_goals exact g_fin ⟨.inl rfl, id, _, rfl, .refl _, trivial, rfl, rfl⟩

theorem rset4n (R : Rws) (hR : R.length ≤ 500) (hT : SetsOk R) (x : Int) (hn : clsI x R 0 < 0) : FnOK Tryz.prog 40 [aggS (stR 4 R), aggS [ki 4, intsP [x]]] [] (.tup [aggS (stR 4 R), aggS (rsR (erR 12))]) [] := by
  have hlm : (R.map rowR).length = R.length := List.length_map _
  have hSz := size_ok R hR hT.tot
  have hw : ∀ r ∈ R, r.length ≤ 500 := fun r hr => by obtain ⟨i, hi⟩ := List.mem_iff_getElem?.1 hr; exact hT.rowLen hi
  have hY := fail_ok 4 R 12
  have hCa := rclass_ok R hR hw x
  clear hT
  refine fn_ok T Tryz.func40 (by kernel_rfl) rfl rfl rfl rfl fun C hC => ?_
  repeat' first
    | refine g_go T hC true 400 rfl rfl ?_
    | (exact absurd hn (of_decide_eq_false h))
    | (exfalso; simp at h; done)
    | refine g_cond rfl (fun h => ?_) (fun h => ?_)
    | refine g_end T hC (by kernel_rfl) ?_
    | refine g_splitD (fun h => ?_) (fun h => ?_)
    | refine g_splitG rfl rfl rfl (fun h => ?_) (fun h => ?_)
    | refine g_splitP rfl rfl (fun h => ?_) (fun h => ?_)
    | refine g_idx T hC (rows := [x].map intR) rfl rfl rfl (by decide) rfl rfl rfl ?_
    | refine g_call hC (hSz) rfl rfl (LeSs.refl _) rfl rfl rfl ?_
    | refine g_call hC (hCa) rfl rfl (LeSs.refl _) rfl rfl rfl ?_
    | refine g_call hC (hY) rfl rfl (LeSs.refl _) rfl rfl rfl ?_
  all_goals exact g_fin ⟨.inl rfl, id, _, rfl, .refl _, trivial, rfl, rfl⟩

theorem rset4 (R : Rws) (hR : R.length ≤ 500) (hT : SetsOk R) (x : Int) (i : Nat) (r : Rw) (hc : clsI x R 0 = (i : Int)) (hr : R[i]? = some r) : FnOK Tryz.prog 40 [aggS (stR 4 R), aggS [ki 4, intsP [x]]] [] (.tup [aggS (stR 4 R), aggS (rsR (okR r.length))]) [] := by
  have hlm : (R.map rowR).length = R.length := List.length_map _
  have hSz := size_ok R hR hT.tot
  have hw : ∀ r ∈ R, r.length ≤ 500 := fun r hr => by obtain ⟨i, hi⟩ := List.mem_iff_getElem?.1 hr; exact hT.rowLen hi
  have hY := yield_ok 4 R r.length
  have hCa := rclass_ok R hR hw x
  have hrl : (r.map intR).length = r.length := List.length_map _
  clear hT
  refine fn_ok T Tryz.func40 (by kernel_rfl) rfl rfl rfl rfl fun C hC => ?_
  repeat' first
    | refine g_go T hC true 400 rfl rfl ?_
    | (exfalso; have h2 := of_decide_eq_true h; omega)
    | (exfalso; simp at h; done)
    | refine g_cond rfl (fun h => ?_) (fun h => ?_)
    | refine g_end T hC (by kernel_rfl) ?_
    | refine g_splitD (fun h => ?_) (fun h => ?_)
    | refine g_splitG rfl rfl rfl (fun h => ?_) (fun h => ?_)
    | refine g_splitP rfl rfl (fun h => ?_) (fun h => ?_)
    | refine g_idx T hC (rows := [x].map intR) rfl rfl rfl (by decide) rfl rfl rfl ?_
    | refine g_call hC (hSz) rfl rfl (LeSs.refl _) rfl rfl rfl ?_
    | (rw [hc] at hCa; refine g_call hC hCa rfl rfl (LeSs.refl _) rfl rfl rfl ?_)
    | refine g_idx T hC (rows := R.map rowR) rfl rfl rfl (Int.natCast_nonneg _) (map_at hr) rfl rfl ?_
    | (rw [hrl]; refine g_call hC hY rfl rfl (LeSs.refl _) rfl rfl rfl ?_)
  all_goals exact g_fin ⟨.inl rfl, id, _, rfl, .refl _, trivial, rfl, rfl⟩

theorem rset2n (R : Rws) (hR : R.length ≤ 500) (hT : SetsOk R) (x y : Int) (hn : clsI x R 0 < 0 ∨ clsI y R 0 < 0) : FnOK Tryz.prog 40 [aggS (stR 4 R), aggS [ki 2, intsP [x, y]]] [] (.tup [aggS (stR 4 R), aggS (rsR (erR 12))]) [] := by
  have hlm : (R.map rowR).length = R.length := List.length_map _
  have hSz := size_ok R hR hT.tot
  have hw : ∀ r ∈ R, r.length ≤ 500 := fun r hr => by obtain ⟨i, hi⟩ := List.mem_iff_getElem?.1 hr; exact hT.rowLen hi
  have hY := fail_ok 4 R 12
  have hCa := rclass_ok R hR hw x
  have hCb := rclass_ok R hR hw y
  clear hT
  refine fn_ok T Tryz.func40 (by kernel_rfl) rfl rfl rfl rfl fun C hC => ?_
  repeat' first
    | refine g_go T hC true 400 rfl rfl ?_
    | (exfalso; simp at h; done)
    | refine g_cond rfl (fun h => ?_) (fun h => ?_)
    | refine g_end T hC (by kernel_rfl) ?_
    | refine g_splitD (fun h => ?_) (fun h => ?_)
    | refine g_splitG rfl rfl rfl (fun h => ?_) (fun h => ?_)
    | refine g_splitP rfl rfl (fun h => ?_) (fun h => ?_)
    | refine g_idx T hC (rows := [x, y].map intR) rfl rfl rfl (by decide) rfl rfl rfl ?_
    | refine g_call hC (hSz) rfl rfl (LeSs.refl _) rfl rfl rfl ?_
    | refine g_call hC (hCa) rfl rfl (LeSs.refl _) rfl rfl rfl ?_
    | refine g_call hC (hCb) rfl rfl (LeSs.refl _) rfl rfl rfl ?_
    | refine g_call hC (hY) rfl rfl (LeSs.refl _) rfl rfl rfl ?_
  all_goals first | exact g_fin ⟨.inl rfl, id, _, rfl, .refl _, trivial, rfl, rfl⟩ | (exfalso; clear hCa hCb hY hSz hw; simp only [decide_eq_true_eq, decide_eq_false_iff_not] at *; omega)

theorem rset3n (R : Rws) (hR : R.length ≤ 500) (hT : SetsOk R) (x y : Int) (hn : clsI x R 0 < 0 ∨ clsI y R 0 < 0) : FnOK Tryz.prog 40 [aggS (stR 4 R), aggS [ki 3, intsP [x, y]]] [] (.tup [aggS (stR 4 R), aggS (rsR (erR 12))]) [] := by
  have hlm : (R.map rowR).length = R.length := List.length_map _
  have hSz := size_ok R hR hT.tot
  have hw : ∀ r ∈ R, r.length ≤ 500 := fun r hr => by obtain ⟨i, hi⟩ := List.mem_iff_getElem?.1 hr; exact hT.rowLen hi
  have hY := fail_ok 4 R 12
  have hCa := rclass_ok R hR hw x
  have hCb := rclass_ok R hR hw y
  clear hT
  refine fn_ok T Tryz.func40 (by kernel_rfl) rfl rfl rfl rfl fun C hC => ?_
  repeat' first
    | refine g_go T hC true 400 rfl rfl ?_
    | (exfalso; simp at h; done)
    | refine g_cond rfl (fun h => ?_) (fun h => ?_)
    | refine g_end T hC (by kernel_rfl) ?_
    | refine g_splitD (fun h => ?_) (fun h => ?_)
    | refine g_splitG rfl rfl rfl (fun h => ?_) (fun h => ?_)
    | refine g_splitP rfl rfl (fun h => ?_) (fun h => ?_)
    | refine g_idx T hC (rows := [x, y].map intR) rfl rfl rfl (by decide) rfl rfl rfl ?_
    | refine g_call hC (hSz) rfl rfl (LeSs.refl _) rfl rfl rfl ?_
    | refine g_call hC (hCa) rfl rfl (LeSs.refl _) rfl rfl rfl ?_
    | refine g_call hC (hCb) rfl rfl (LeSs.refl _) rfl rfl rfl ?_
    | refine g_call hC (hY) rfl rfl (LeSs.refl _) rfl rfl rfl ?_
  all_goals first | exact g_fin ⟨.inl rfl, id, _, rfl, .refl _, trivial, rfl, rfl⟩ | (exfalso; clear hCa hCb hY hSz hw; simp only [decide_eq_true_eq, decide_eq_false_iff_not] at *; omega)

theorem rset3y (R : Rws) (hR : R.length ≤ 500) (hT : SetsOk R) (x y : Int) (ha : 0 ≤ clsI x R 0) (hb : 0 ≤ clsI y R 0) (hab : clsI x R 0 = clsI y R 0) : FnOK Tryz.prog 40 [aggS (stR 4 R), aggS [ki 3, intsP [x, y]]] [] (.tup [aggS (stR 4 R), aggS (rsR (okR 1))]) [] := by
  have hlm : (R.map rowR).length = R.length := List.length_map _
  have hSz := size_ok R hR hT.tot
  have hw : ∀ r ∈ R, r.length ≤ 500 := fun r hr => by obtain ⟨i, hi⟩ := List.mem_iff_getElem?.1 hr; exact hT.rowLen hi
  have hY := yield_ok 4 R 1
  have hCa := rclass_ok R hR hw x
  have hCb := rclass_ok R hR hw y
  clear hT
  refine fn_ok T Tryz.func40 (by kernel_rfl) rfl rfl rfl rfl fun C hC => ?_
  repeat' first
    | refine g_go T hC true 400 rfl rfl ?_
    | (exact absurd hab (of_decide_eq_false h))
    | (exfalso; have h2 := of_decide_eq_true h; omega)
    | (exfalso; simp at h; done)
    | refine g_cond rfl (fun h => ?_) (fun h => ?_)
    | refine g_end T hC (by kernel_rfl) ?_
    | refine g_splitD (fun h => ?_) (fun h => ?_)
    | refine g_splitG rfl rfl rfl (fun h => ?_) (fun h => ?_)
    | refine g_splitP rfl rfl (fun h => ?_) (fun h => ?_)
    | refine g_idx T hC (rows := [x, y].map intR) rfl rfl rfl (by decide) rfl rfl rfl ?_
    | refine g_call hC (hSz) rfl rfl (LeSs.refl _) rfl rfl rfl ?_
    | refine g_call hC (hCa) rfl rfl (LeSs.refl _) rfl rfl rfl ?_
    | refine g_call hC (hCb) rfl rfl (LeSs.refl _) rfl rfl rfl ?_
    | refine g_call hC (hY) rfl rfl (LeSs.refl _) rfl rfl rfl ?_
  all_goals exact g_fin ⟨.inl rfl, id, _, rfl, .refl _, trivial, rfl, rfl⟩

theorem rset3m (R : Rws) (hR : R.length ≤ 500) (hT : SetsOk R) (x y : Int) (ha : 0 ≤ clsI x R 0) (hb : 0 ≤ clsI y R 0) (hab : ¬ clsI x R 0 = clsI y R 0) : FnOK Tryz.prog 40 [aggS (stR 4 R), aggS [ki 3, intsP [x, y]]] [] (.tup [aggS (stR 4 R), aggS (rsR (okR 0))]) [] := by
  have hlm : (R.map rowR).length = R.length := List.length_map _
  have hSz := size_ok R hR hT.tot
  have hw : ∀ r ∈ R, r.length ≤ 500 := fun r hr => by obtain ⟨i, hi⟩ := List.mem_iff_getElem?.1 hr; exact hT.rowLen hi
  have hY := yield_ok 4 R 0
  have hCa := rclass_ok R hR hw x
  have hCb := rclass_ok R hR hw y
  clear hT
  refine fn_ok T Tryz.func40 (by kernel_rfl) rfl rfl rfl rfl fun C hC => ?_
  repeat' first
    | refine g_go T hC true 400 rfl rfl ?_
    | (exact absurd (of_decide_eq_true h) hab)
    | (exfalso; have h2 := of_decide_eq_true h; omega)
    | (exfalso; simp at h; done)
    | refine g_cond rfl (fun h => ?_) (fun h => ?_)
    | refine g_end T hC (by kernel_rfl) ?_
    | refine g_splitD (fun h => ?_) (fun h => ?_)
    | refine g_splitG rfl rfl rfl (fun h => ?_) (fun h => ?_)
    | refine g_splitP rfl rfl (fun h => ?_) (fun h => ?_)
    | refine g_idx T hC (rows := [x, y].map intR) rfl rfl rfl (by decide) rfl rfl rfl ?_
    | refine g_call hC (hSz) rfl rfl (LeSs.refl _) rfl rfl rfl ?_
    | refine g_call hC (hCa) rfl rfl (LeSs.refl _) rfl rfl rfl ?_
    | refine g_call hC (hCb) rfl rfl (LeSs.refl _) rfl rfl rfl ?_
    | refine g_call hC (hY) rfl rfl (LeSs.refl _) rfl rfl rfl ?_
  all_goals exact g_fin ⟨.inl rfl, id, _, rfl, .refl _, trivial, rfl, rfl⟩

theorem rset2s (R : Rws) (hR : R.length ≤ 500) (hT : SetsOk R) (x y : Int) (ha : 0 ≤ clsI x R 0) (hb : 0 ≤ clsI y R 0) (hab : clsI x R 0 = clsI y R 0) : FnOK Tryz.prog 40 [aggS (stR 4 R), aggS [ki 2, intsP [x, y]]] [] (.tup [aggS (stR 4 R), aggS (rsR (okR 0))]) [] := by
  have hlm : (R.map rowR).length = R.length := List.length_map _
  have hSz := size_ok R hR hT.tot
  have hw : ∀ r ∈ R, r.length ≤ 500 := fun r hr => by obtain ⟨i, hi⟩ := List.mem_iff_getElem?.1 hr; exact hT.rowLen hi
  have hY := yield_ok 4 R 0
  have hCa := rclass_ok R hR hw x
  have hCb := rclass_ok R hR hw y
  clear hT
  refine fn_ok T Tryz.func40 (by kernel_rfl) rfl rfl rfl rfl fun C hC => ?_
  repeat' first
    | refine g_go T hC true 400 rfl rfl ?_
    | (exact absurd hab (of_decide_eq_false h))
    | (exfalso; have h2 := of_decide_eq_true h; omega)
    | (exfalso; simp at h; done)
    | refine g_cond rfl (fun h => ?_) (fun h => ?_)
    | refine g_end T hC (by kernel_rfl) ?_
    | refine g_splitD (fun h => ?_) (fun h => ?_)
    | refine g_splitG rfl rfl rfl (fun h => ?_) (fun h => ?_)
    | refine g_splitP rfl rfl (fun h => ?_) (fun h => ?_)
    | refine g_idx T hC (rows := [x, y].map intR) rfl rfl rfl (by decide) rfl rfl rfl ?_
    | refine g_call hC (hSz) rfl rfl (LeSs.refl _) rfl rfl rfl ?_
    | refine g_call hC (hCa) rfl rfl (LeSs.refl _) rfl rfl rfl ?_
    | refine g_call hC (hCb) rfl rfl (LeSs.refl _) rfl rfl rfl ?_
    | refine g_call hC (hY) rfl rfl (LeSs.refl _) rfl rfl rfl ?_
  all_goals exact g_fin ⟨.inl rfl, id, _, rfl, .refl _, trivial, rfl, rfl⟩

theorem rset1 (R : Rws) (hR : R.length ≤ 500) (hT : SetsOk R) (h5 : R.flatten.length < 500) : FnOK Tryz.prog 40 [.agg [.p (ki 4), .ar 0], aggS [ki 1, intsP []]] [(0, .arr 1 (R.map rowR))] (.tup [aggS (stR 4 (R ++ [[(R.flatten.length : Int)]])), aggS (rsR (okR R.flatten.length))]) [] := by
  have hlm : (R.map rowR).length = R.length := List.length_map _
  have hSz := size_ok R hR hT.tot
  have hw : ∀ r ∈ R, r.length ≤ 500 := fun r hr => by obtain ⟨i, hi⟩ := List.mem_iff_getElem?.1 hr; exact hT.rowLen hi
  have hY := yield_ok 4 (R ++ [[(R.flatten.length : Int)]]) R.flatten.length
  clear hT
  refine fn_ok T Tryz.func40 (by kernel_rfl) rfl rfl rfl rfl fun C hC => ?_
  repeat' first
    | refine g_go T hC true 400 rfl rfl ?_
    | (exfalso; first | (simp only [decide_eq_true_eq, decide_eq_false_iff_not, List.length_map, Bool.not_eq_true', Bool.not_eq_false'] at *; omega) | (simp at h; done))
    | (exfalso; simp at h; done)
    | refine g_cond rfl (fun h => ?_) (fun h => ?_)
    | refine g_end T hC (by kernel_rfl) ?_
    | refine g_splitD (fun h => ?_) (fun h => ?_)
    | refine g_splitG rfl rfl rfl (fun h => ?_) (fun h => ?_)
    | refine g_splitP rfl rfl (fun h => ?_) (fun h => ?_)
    | (refine g_callN hC hSz [(0, .arr 1 (R.map rowR))] rfl rfl (LnSs.cons (LnS.agg (.cons (.refl _) (.cons (LnV.ar (.head _)) .nil))) (LnSs.refl _)) rfl rfl rfl rfl ?_)
    | refine g_lit T hC rfl rfl rfl rfl rfl rfl rfl rfl rfl ?_
    | refine g_append T 106 hC (id := 0) (rows := R.map rowR) (rows2 := [rowR [(R.flatten.length : Int)]]) (rows3 := (R ++ [[(R.flatten.length : Int)]]).map rowR) (bytes := 24) rfl rfl rfl rfl (SrcS.sl (T.es_ok _ _ rfl)) (by rw [List.map_append]; rfl) rfl rfl rfl (by kernel_rfl) (by rw [hlm, List.length_singleton]; omega) (by rw [hlm, List.length_singleton]; omega) rfl rfl rfl ?_
    | (refine g_freeze rfl (id := 106) (e := 1) (rows := (R ++ [[(R.flatten.length : Int)]]).map rowR) rfl [(29, aggS (stR 4 (R ++ [[(R.flatten.length : Int)]])))] ⟨⟨_, rfl, FrS.agg (FrVs.cons (FrV.refl _) (FrVs.cons FrV.ar FrVs.nil))⟩, trivial⟩ [] trivial ?_; refine g_call hC hY rfl rfl (LeSs.refl _) rfl rfl rfl ?_)
  all_goals exact g_fin ⟨.inl rfl, id, _, rfl, .refl _, trivial, rfl, rfl⟩

theorem rset2a (R : Rws) (hR : R.length ≤ 500) (hT : SetsOk R) (x y : Int) (i j : Nat) (A B : Rw) (ha : clsI x R 0 = (i : Int)) (hb : clsI y R 0 = (j : Int)) (hA : R[i]? = some A) (hB : R[j]? = some B) (hij : i < j) : FnOK Tryz.prog 40 [.agg [.p (ki 4), .ar 0], aggS [ki 2, intsP [x, y]]] [(0, .arr 1 (R.map rowR))] (.tup [aggS (stR 4 ((R.set i (mergeI A B)).eraseIdx j)), aggS (rsR (okR 1))]) [] := by
  have hlm : (R.map rowR).length = R.length := List.length_map _
  have hSz := size_ok R hR hT.tot
  have hw : ∀ r ∈ R, r.length ≤ 500 := fun r hr => by obtain ⟨i, hi⟩ := List.mem_iff_getElem?.1 hr; exact hT.rowLen hi
  have hCa := rclass_ok R hR hw x
  have hCb := rclass_ok R hR hw y
  have hil := (List.getElem?_eq_some_iff.1 hA).1
  have hjl := (List.getElem?_eq_some_iff.1 hB).1
  have hM := merged_ok A B (hw A (List.mem_of_getElem? hA)) (hw B (List.mem_of_getElem? hB))
  have hY := yield_ok 4 ((R.set i (mergeI A B)).eraseIdx j) 1
  have hX := cut_ok (R.set i (mergeI A B)) (by rw [List.length_set]; omega) j (by rw [List.length_set]; omega)
  have hmn : (if (j : Int) < (i : Int) then (j : Int) else (i : Int)) = (i : Int) := by split <;> omega
  have hmx : (if (i : Int) < (j : Int) then (j : Int) else (i : Int)) = (j : Int) := by split <;> omega
  have hst : (R.map rowR).set i (setAt (rowR A) 0 (rowR (mergeI A B))) = (R.set i (mergeI A B)).map rowR := by rw [List.map_set]; rfl
  clear hT
  refine fn_ok T Tryz.func40 (by kernel_rfl) rfl rfl rfl rfl fun C hC => ?_
  repeat' first
    | refine g_go T hC true 400 rfl rfl ?_
    | (exfalso; have h2 := of_decide_eq_true h; omega)
    | (exfalso; simp at h; done)
    | refine g_cond rfl (fun h => ?_) (fun h => ?_)
    | refine g_end T hC (by kernel_rfl) ?_
    | refine g_splitD (fun h => ?_) (fun h => ?_)
    | refine g_splitG rfl rfl rfl (fun h => ?_) (fun h => ?_)
    | refine g_splitP rfl rfl (fun h => ?_) (fun h => ?_)
    | refine g_idx T hC (rows := [x, y].map intR) rfl rfl rfl (by decide) rfl rfl rfl ?_
    | (refine g_callN hC hSz [(0, .arr 1 (R.map rowR))] rfl rfl (LnSs.cons (LnS.agg (.cons (.refl _) (.cons (LnV.ar (.head _)) .nil))) (LnSs.refl _)) rfl rfl rfl rfl ?_)
    | (rw [ha] at hCa; rw [hb] at hCb; (refine g_callN hC hCa [(0, .arr 1 (R.map rowR))] rfl rfl (LnSs.cons (LnS.agg (.cons (.refl _) (.cons (LnV.ar (.head _)) .nil))) (LnSs.refl _)) rfl rfl rfl rfl ?_))
    | (refine g_callN hC hCb [(0, .arr 1 (R.map rowR))] rfl rfl (LnSs.cons (LnS.agg (.cons (.refl _) (.cons (LnV.ar (.head _)) .nil))) (LnSs.refl _)) rfl rfl rfl rfl ?_)
    | refine g_min2 hC (i : Int) rfl rfl hmn rfl rfl ?_
    | refine g_max2 hC (j : Int) rfl rfl hmx rfl rfl ?_
    | refine g_idxA T hC (rows := R.map rowR) rfl rfl rfl rfl (Int.natCast_nonneg _) (by rw [hlm]; omega) rfl rfl ?_
    | refine g_loadE T hC i 0 (rows := R.map rowR) (row := rowR A) rfl rfl rfl rfl (map_at hA) rfl rfl rfl ?_
    | refine g_loadE T hC j 0 (rows := R.map rowR) (row := rowR B) rfl rfl rfl rfl (map_at hB) rfl rfl rfl ?_
    | refine g_call hC (hM) rfl rfl (LeSs.refl _) rfl rfl rfl ?_
    | refine g_storeE T hC i 0 (rows := R.map rowR) (row := rowR A) (us := rowR (mergeI A B)) (rows' := (R.set i (mergeI A B)).map rowR) rfl rfl rfl rfl rfl rfl rfl (map_at hA) (Nat.le_refl 1) hst rfl ?_
    | (refine g_freeze rfl (id := 0) (e := 1) (rows := (R.set i (mergeI A B)).map rowR) rfl [(128, pS (rowsP (R.set i (mergeI A B))))] ⟨⟨_, rfl, FrS.ar⟩, trivial⟩ [(1002, [.p (ki 4), .p (rowsP (R.set i (mergeI A B)))])] ⟨⟨_, rfl, by decide, FrVs.cons (FrV.refl _) (FrVs.cons FrV.ar FrVs.nil)⟩, trivial⟩ ?_; refine g_call hC hX rfl rfl (LeSs.refl _) rfl rfl rfl ?_)
    | refine g_call hC (hX) rfl rfl (LeSs.refl _) rfl rfl rfl ?_
    | refine g_call hC (hY) rfl rfl (LeSs.refl _) rfl rfl rfl ?_
  all_goals exact g_fin ⟨.inl rfl, id, _, rfl, .refl _, trivial, rfl, rfl⟩

theorem rset2b (R : Rws) (hR : R.length ≤ 500) (hT : SetsOk R) (x y : Int) (i j : Nat) (A B : Rw) (ha : clsI x R 0 = (i : Int)) (hb : clsI y R 0 = (j : Int)) (hA : R[i]? = some A) (hB : R[j]? = some B) (hij : j < i) : FnOK Tryz.prog 40 [.agg [.p (ki 4), .ar 0], aggS [ki 2, intsP [x, y]]] [(0, .arr 1 (R.map rowR))] (.tup [aggS (stR 4 ((R.set j (mergeI A B)).eraseIdx i)), aggS (rsR (okR 1))]) [] := by
  have hlm : (R.map rowR).length = R.length := List.length_map _
  have hSz := size_ok R hR hT.tot
  have hw : ∀ r ∈ R, r.length ≤ 500 := fun r hr => by obtain ⟨i, hi⟩ := List.mem_iff_getElem?.1 hr; exact hT.rowLen hi
  have hCa := rclass_ok R hR hw x
  have hCb := rclass_ok R hR hw y
  have hil := (List.getElem?_eq_some_iff.1 hA).1
  have hjl := (List.getElem?_eq_some_iff.1 hB).1
  have hM := merged_ok A B (hw A (List.mem_of_getElem? hA)) (hw B (List.mem_of_getElem? hB))
  have hY := yield_ok 4 ((R.set j (mergeI A B)).eraseIdx i) 1
  have hX := cut_ok (R.set j (mergeI A B)) (by rw [List.length_set]; omega) i (by rw [List.length_set]; omega)
  have hmn : (if (j : Int) < (i : Int) then (j : Int) else (i : Int)) = (j : Int) := by split <;> omega
  have hmx : (if (i : Int) < (j : Int) then (j : Int) else (i : Int)) = (i : Int) := by split <;> omega
  have hst : (R.map rowR).set j (setAt (rowR B) 0 (rowR (mergeI A B))) = (R.set j (mergeI A B)).map rowR := by rw [List.map_set]; rfl
  clear hT
  refine fn_ok T Tryz.func40 (by kernel_rfl) rfl rfl rfl rfl fun C hC => ?_
  repeat' first
    | refine g_go T hC true 400 rfl rfl ?_
    | (exfalso; have h2 := of_decide_eq_true h; omega)
    | (exfalso; simp at h; done)
    | refine g_cond rfl (fun h => ?_) (fun h => ?_)
    | refine g_end T hC (by kernel_rfl) ?_
    | refine g_splitD (fun h => ?_) (fun h => ?_)
    | refine g_splitG rfl rfl rfl (fun h => ?_) (fun h => ?_)
    | refine g_splitP rfl rfl (fun h => ?_) (fun h => ?_)
    | refine g_idx T hC (rows := [x, y].map intR) rfl rfl rfl (by decide) rfl rfl rfl ?_
    | (refine g_callN hC hSz [(0, .arr 1 (R.map rowR))] rfl rfl (LnSs.cons (LnS.agg (.cons (.refl _) (.cons (LnV.ar (.head _)) .nil))) (LnSs.refl _)) rfl rfl rfl rfl ?_)
    | (rw [ha] at hCa; rw [hb] at hCb; (refine g_callN hC hCa [(0, .arr 1 (R.map rowR))] rfl rfl (LnSs.cons (LnS.agg (.cons (.refl _) (.cons (LnV.ar (.head _)) .nil))) (LnSs.refl _)) rfl rfl rfl rfl ?_))
    | (refine g_callN hC hCb [(0, .arr 1 (R.map rowR))] rfl rfl (LnSs.cons (LnS.agg (.cons (.refl _) (.cons (LnV.ar (.head _)) .nil))) (LnSs.refl _)) rfl rfl rfl rfl ?_)
    | refine g_min2 hC (j : Int) rfl rfl hmn rfl rfl ?_
    | refine g_max2 hC (i : Int) rfl rfl hmx rfl rfl ?_
    | refine g_idxA T hC (rows := R.map rowR) rfl rfl rfl rfl (Int.natCast_nonneg _) (by rw [hlm]; omega) rfl rfl ?_
    | refine g_loadE T hC i 0 (rows := R.map rowR) (row := rowR A) rfl rfl rfl rfl (map_at hA) rfl rfl rfl ?_
    | refine g_loadE T hC j 0 (rows := R.map rowR) (row := rowR B) rfl rfl rfl rfl (map_at hB) rfl rfl rfl ?_
    | refine g_call hC (hM) rfl rfl (LeSs.refl _) rfl rfl rfl ?_
    | refine g_storeE T hC j 0 (rows := R.map rowR) (row := rowR B) (us := rowR (mergeI A B)) (rows' := (R.set j (mergeI A B)).map rowR) rfl rfl rfl rfl rfl rfl rfl (map_at hB) (Nat.le_refl 1) hst rfl ?_
    | (refine g_freeze rfl (id := 0) (e := 1) (rows := (R.set j (mergeI A B)).map rowR) rfl [(128, pS (rowsP (R.set j (mergeI A B))))] ⟨⟨_, rfl, FrS.ar⟩, trivial⟩ [(1002, [.p (ki 4), .p (rowsP (R.set j (mergeI A B)))])] ⟨⟨_, rfl, by decide, FrVs.cons (FrV.refl _) (FrVs.cons FrV.ar FrVs.nil)⟩, trivial⟩ ?_; refine g_call hC hX rfl rfl (LeSs.refl _) rfl rfl rfl ?_)
    | refine g_call hC (hX) rfl rfl (LeSs.refl _) rfl rfl rfl ?_
    | refine g_call hC (hY) rfl rfl (LeSs.refl _) rfl rfl rfl ?_
  all_goals exact g_fin ⟨.inl rfl, id, _, rfl, .refl _, trivial, rfl, rfl⟩

theorem rsets_pure (R : Rws) (o : OpT) (hv : validS 4 R = true) (ho : okOp 4 o = true) (h1 : ¬ (o.code = 1 ∧ R.flatten.length < 500)) (h2 : ¬ (o.code = 2 ∧ 0 ≤ clsI (at0 o.args 0) R 0 ∧ 0 ≤ clsI (at0 o.args 1) R 0 ∧ ¬ clsI (at0 o.args 0) R 0 = clsI (at0 o.args 1) R 0)) :
    FnOK Tryz.prog 40 [aggS (stR 4 R), aggS (opR o)] [] (.tup [aggS (stR 4 (setsS R o).1), aggS (rsR (setsS R o).2)]) [] := by
  obtain ⟨hR, hT⟩ := valid4 hv
  rcases op4 ho with rfl | ⟨x, y, hc, hx, hy⟩ | ⟨x, rfl, hx⟩ | rfl
  · by_cases h5 : R.flatten.length = 500
    · have e : setsS R ⟨1, []⟩ = (R, erR 4) := by simp only [setsS]; rw [if_neg (by decide), if_pos trivial]; exact if_pos h5
      rw [e]; exact rset1f R hR hT h5
    · exact absurd ⟨rfl, by have := hT.tot; omega⟩ h1
  · by_cases hz : clsI x R 0 < 0 ∨ clsI y R 0 < 0
    · rcases hc with rfl | rfl
      · have e : setsS R ⟨2, [x, y]⟩ = (R, erR 12) := by simp only [setsS]; rw [if_neg (by decide), if_neg (by decide), if_neg (by decide)]; exact if_pos hz
        rw [e]; exact rset2n R hR hT x y hz
      · have e : setsS R ⟨3, [x, y]⟩ = (R, erR 12) := by simp only [setsS]; rw [if_neg (by decide), if_neg (by decide), if_neg (by decide)]; exact if_pos hz
        rw [e]; exact rset3n R hR hT x y hz
    · have hz1 : 0 ≤ clsI x R 0 := by omega
      have hz2 : 0 ≤ clsI y R 0 := by omega
      rcases hc with rfl | rfl
      · by_cases hab : clsI x R 0 = clsI y R 0
        · have e : setsS R ⟨2, [x, y]⟩ = (R, okR 0) := by simp only [setsS]; rw [if_neg (by decide), if_neg (by decide), if_neg (by decide)]; exact (if_neg hz).trans ((if_neg (by decide)).trans (if_pos hab))
          rw [e]; exact rset2s R hR hT x y hz1 hz2 hab
        · exact absurd ⟨rfl, hz1, hz2, hab⟩ h2
      · by_cases hab : clsI x R 0 = clsI y R 0
        · have e : setsS R ⟨3, [x, y]⟩ = (R, okR 1) := by simp only [setsS]; rw [if_neg (by decide), if_neg (by decide), if_neg (by decide)]; refine (if_neg hz).trans ((if_pos trivial).trans ?_); show (R, okR (if clsI x R 0 = clsI y R 0 then 1 else 0)) = _; rw [if_pos hab]
          rw [e]; exact rset3y R hR hT x y hz1 hz2 hab
        · have e : setsS R ⟨3, [x, y]⟩ = (R, okR 0) := by simp only [setsS]; rw [if_neg (by decide), if_neg (by decide), if_neg (by decide)]; refine (if_neg hz).trans ((if_pos trivial).trans ?_); show (R, okR (if clsI x R 0 = clsI y R 0 then 1 else 0)) = _; rw [if_neg hab]
          rw [e]; exact rset3m R hR hT x y hz1 hz2 hab
  · rcases clsI_spec x R 0 with ⟨h, _⟩ | ⟨i, r, h, h2, _⟩
    · have e : setsS R ⟨4, [x]⟩ = (R, erR 12) := by simp only [setsS]; rw [if_neg (by decide), if_neg (by decide), if_pos trivial]; exact if_pos (by rw [show at0 [x] 0 = x from rfl, h]; decide)
      rw [e]; exact rset4n R hR hT x (by rw [h]; decide)
    · rw [Nat.zero_add] at h
      have e : setsS R ⟨4, [x]⟩ = (R, okR r.length) := by
        simp only [setsS]; rw [if_neg (by decide), if_neg (by decide), if_pos trivial, show at0 [x] 0 = x from rfl, h, Int.toNat_natCast, rowA_of h2]; exact if_neg (by omega)
      rw [e]
      exact rset4 R hR hT x i r h h2
  · exact rset5 R hR hT
theorem rsets_own (R : Rws) (o : OpT) (hv : validS 4 R = true) (ho : okOp 4 o = true) (h : (o.code = 1 ∧ R.flatten.length < 500) ∨ (o.code = 2 ∧ 0 ≤ clsI (at0 o.args 0) R 0 ∧ 0 ≤ clsI (at0 o.args 1) R 0 ∧ ¬ clsI (at0 o.args 0) R 0 = clsI (at0 o.args 1) R 0)) :
    FnOK Tryz.prog 40 [.agg [.p (ki 4), .ar 0], aggS (opR o)] [(0, .arr 1 (R.map rowR))] (.tup [aggS (stR 4 (setsS R o).1), aggS (rsR (setsS R o).2)]) [] := by
  obtain ⟨hR, hT⟩ := valid4 hv
  have rd : ∀ (a : Int), 0 ≤ clsI a R 0 → ∃ (i : Nat) (r : Rw), clsI a R 0 = (i : Int) ∧ R[i]? = some r := fun a ha => by
    rcases clsI_spec a R 0 with ⟨h, _⟩ | ⟨i, r, h, h2, _⟩
    · omega
    · exact ⟨i, r, by rw [h, Nat.zero_add], h2⟩
  rcases op4 ho with rfl | ⟨x, y, hc, hx, hy⟩ | ⟨x, rfl, hx⟩ | rfl
  · have h5 : R.flatten.length < 500 := h.elim (fun h => h.2) fun h => absurd h.1 (by decide)
    have e : setsS R ⟨1, []⟩ = (R ++ [[(R.flatten.length : Int)]], okR R.flatten.length) := by simp only [setsS]; rw [if_neg (by decide), if_pos trivial]; exact if_neg (by omega)
    rw [e]; exact rset1 R hR hT h5
  · rcases hc with rfl | rfl
    · obtain ⟨-, hz1, hz2, hab⟩ := h.resolve_left fun h => absurd h.1 (by simp)
      simp only [show at0 [x, y] 0 = x from rfl, show at0 [x, y] 1 = y from rfl] at hz1 hz2 hab
      obtain ⟨i, A, h1, h2⟩ := rd x hz1
      obtain ⟨j, B, h3, h4⟩ := rd y hz2
      have hz : ¬ (clsI x R 0 < 0 ∨ clsI y R 0 < 0) := by omega
      have e0 : setsS R ⟨2, [x, y]⟩ = ((R.set (min (clsI x R 0) (clsI y R 0)).toNat (mergeI (rowA R (clsI x R 0).toNat) (rowA R (clsI y R 0).toNat))).eraseIdx (max (clsI x R 0) (clsI y R 0)).toNat, okR 1) := by
        simp only [setsS]; rw [if_neg (by decide), if_neg (by decide), if_neg (by decide)]; exact (if_neg hz).trans ((if_neg (by decide)).trans (if_neg hab))
      rw [e0, h1, h3]
      rcases Nat.lt_or_ge i j with hij | hij
      · rw [Int.min_eq_left (by omega), Int.max_eq_right (by omega), Int.toNat_natCast, Int.toNat_natCast, rowA_of h2, rowA_of h4]
        exact rset2a R hR hT x y i j A B h1 h3 h2 h4 hij
      · rw [Int.min_eq_right (by omega), Int.max_eq_left (by omega), Int.toNat_natCast, Int.toNat_natCast, rowA_of h2, rowA_of h4]
        exact rset2b R hR hT x y i j A B h1 h3 h2 h4 (by omega)
    · exact absurd (h.elim (fun h => h.1) fun h => absurd h.1 (by simp)) (by simp)
  · exact absurd (h.elim (fun h => h.1) fun h => absurd h.1 (by simp)) (by simp)
  · exact absurd (h.elim (fun h => h.1) fun h => absurd h.1 (by decide)) (by decide)
end Hw.Mz
namespace Hw.Mz
open Go Go.Proofs Go.Shelf Hw.M

/-! models: the reference's texts -/
theorem occurs_ok (l : List Int) (k : Nat) (p : List Int) (hl : l.length ≤ 1000) (hk : k ≤ l.length) (hp : p.length ≤ 1000) : FnOK Tryz.prog 72 [pS (intsP l), I k, pS (intsP p)] [] (.bq (occL l p k)) [] := by
  have hpl : (p.map intR).length = p.length := List.length_map _
  have hll : (l.map intR).length = l.length := List.length_map _
  refine fn_ok T Tryz.func72 (by kernel_rfl) rfl rfl rfl rfl fun C hC => ?_
  repeat' first
    | refine g_go T hC true 400 rfl rfl ?_
    | refine g_cond rfl (fun h => ?_) (fun h => ?_)
    | refine g_end T hC (by kernel_rfl) ?_
    | refine g_splitD (fun h => ?_) (fun h => ?_)
    | refine g_splitG rfl rfl rfl (fun h => ?_) (fun h => ?_)
    | refine g_splitP rfl rfl (fun h => ?_) (fun h => ?_)
  refine g_loop (fun i : Nat => i ≤ p.length ∧ (l.drop k).take i = p.take i) (fun i => ([(0, pS (intsP l)), (1, I k), (2, pS (intsP p)), (7, I i)], [])) (fun i => p.length - i) hC
    0 ⟨Nat.zero_le _, rfl⟩ id ⟨rfl, ⟨rfl, rfl, rfl, rfl, trivial⟩, trivial, rfl, fun _ _ => rfl⟩ ?_
  rintro i ⟨hi, hn⟩
  refine g_run' T hC true 200 rfl ?_
  refine g_cond rfl (fun h => ?_) (fun h => ?_)
  · have hlt : i < p.length := by simpa using h
    clear h
    obtain ⟨y, hy⟩ := exists_at hlt
    have hw : IntKind.i64.wrap ((k : Int) + (i : Int)) = ((k + i : Nat) : Int) := by rw [wrap64 (by omega)]; omega
    rcases Nat.lt_or_ge (k + i) l.length with hkl | hkl
    · obtain ⟨x, hx⟩ := exists_at hkl
      have hx' : (l.map intR)[((k + i : Nat) : Int).toNat]? = some (intR x) := by rw [Int.toNat_natCast]; exact map_at hx
      have hdx : (l.drop k)[i]? = some x := by rw [List.getElem?_drop]; exact hx
      by_cases c1 : x = y
      · have hn2 : (l.drop k).take (i + 1) = p.take (i + 1) := by rw [take_snoc hdx, take_snoc hy, hn, c1]
        repeat' first
          | refine g_go T hC true 400 rfl rfl ?_
          | (exfalso; subst c1; simp at h; done)
          | (exfalso; rw [hw, hll] at h; have h2 := of_decide_eq_true h; omega)
          | refine g_cond rfl (fun h => ?_) (fun h => ?_)
          | refine g_end T hC (by kernel_rfl) ?_
          | refine g_splitD (fun h => ?_) (fun h => ?_)
          | refine g_splitG rfl rfl rfl (fun h => ?_) (fun h => ?_)
          | refine g_splitP rfl rfl (fun h => ?_) (fun h => ?_)
          | (rw [hw]; refine g_idx T hC (rows := l.map intR) rfl rfl rfl (Int.natCast_nonneg _) hx' rfl rfl ?_)
          | refine g_idx T hC (rows := p.map intR) (i := (i : Int)) rfl rfl rfl (Int.natCast_nonneg _) (map_at hy) rfl rfl ?_
          | refine g_outR ?_
        all_goals rw [wrapS (by omega)]
        all_goals exact g_round (i + 1) ⟨by omega, hn2⟩ id (by omega) ⟨rfl, ⟨rfl, rfl, rfl, rfl, trivial⟩, trivial, rfl, fun _ _ => rfl⟩
      · have hno : occL l p k = false := decide_eq_false fun e => c1 (by
          have : ((l.drop k).take p.length)[i]? = p[i]? := by rw [e]
          rw [List.getElem?_take, if_pos hlt, hdx, hy] at this
          exact Option.some.inj this)
        rw [hno]
        repeat' first
          | refine g_go T hC true 400 rfl rfl ?_
          | (exfalso; have h2 : (!decide (x = y)) = false := h; rw [decide_eq_false c1] at h2; exact absurd h2 (by decide))
          | (exfalso; rw [hw, hll] at h; have h2 := of_decide_eq_true h; omega)
          | refine g_cond rfl (fun h => ?_) (fun h => ?_)
          | refine g_end T hC (by kernel_rfl) ?_
          | refine g_splitD (fun h => ?_) (fun h => ?_)
          | refine g_splitG rfl rfl rfl (fun h => ?_) (fun h => ?_)
          | refine g_splitP rfl rfl (fun h => ?_) (fun h => ?_)
          | (rw [hw]; refine g_idx T hC (rows := l.map intR) rfl rfl rfl (Int.natCast_nonneg _) hx' rfl rfl ?_)
          | refine g_idx T hC (rows := p.map intR) (i := (i : Int)) rfl rfl rfl (Int.natCast_nonneg _) (map_at hy) rfl rfl ?_
          | refine g_outR ?_
          | refine g_retl T (.inl rfl) rfl ?_
        all_goals rfl
    · have hno : occL l p k = false := decide_eq_false fun e => by
        have := congrArg List.length e
        rw [List.length_take, List.length_drop] at this
        omega
      rw [hno]
      repeat' first
        | refine g_go T hC true 400 rfl rfl ?_
        | (exfalso; simp at h; done)
        | (exfalso; rw [hw, hll] at h; have h2 := of_decide_eq_false h; omega)
        | refine g_cond rfl (fun h => ?_) (fun h => ?_)
        | refine g_end T hC (by kernel_rfl) ?_
        | refine g_splitD (fun h => ?_) (fun h => ?_)
        | refine g_splitG rfl rfl rfl (fun h => ?_) (fun h => ?_)
        | refine g_splitP rfl rfl (fun h => ?_) (fun h => ?_)
        | refine g_outR ?_
        | refine g_retl T (.inl rfl) rfl ?_
      all_goals rfl
  · have hge : ¬ i < p.length := by simpa using h
    have e : i = p.length := by omega
    subst e
    rw [List.take_length] at hn
    have hyes : occL l p k = true := decide_eq_true hn
    rw [hyes]
    repeat' first
      | refine g_go T hC true 400 rfl rfl ?_
      | refine g_cond rfl (fun h => ?_) (fun h => ?_)
      | refine g_end T hC (by kernel_rfl) ?_
      | refine g_splitD (fun h => ?_) (fun h => ?_)
      | refine g_splitG rfl rfl rfl (fun h => ?_) (fun h => ?_)
      | refine g_splitP rfl rfl (fun h => ?_) (fun h => ?_)
      | refine g_outE ?_
      | refine g_retl T (.inl rfl) rfl ?_
    all_goals rfl
theorem rw_lone : RwR (TkF 120 106 121 0) (.vw [106] 1 [[PC.a 0]]) (vg 121 1) := RwR.vw rfl (gr_one 1) fun j x' hj => by
  match j, hj with
  | 0, hj => exact ⟨PC.a 0, rfl, by
      have hj : some (PC.n 0 0) = some x' := hj
      rw [← Option.some.inj hj]; exact TkF.ar⟩
  | j + 1, hj => simp [gr, grJ] at hj

theorem rtext4n  : FnOK Tryz.prog 42 [aggS (stR 6 []), aggS [ki 4, intsP []]] [] (.tup [aggS (stR 6 []), aggS (rsR (okR 0))]) [] := by
  have hY := yield_ok 6 [] 0
  refine fn_ok T Tryz.func42 (by kernel_rfl) rfl rfl rfl rfl fun C hC => ?_
  repeat' first
    | refine g_go T hC true 400 rfl rfl ?_
    | (exfalso; simp at h; done)
    | refine g_cond rfl (fun h => ?_) (fun h => ?_)
    | refine g_end T hC (by kernel_rfl) ?_
    | refine g_splitD (fun h => ?_) (fun h => ?_)
    | refine g_splitG rfl rfl rfl (fun h => ?_) (fun h => ?_)
    | refine g_splitP rfl rfl (fun h => ?_) (fun h => ?_)
    | refine g_call hC (hY) rfl rfl (LeSs.refl _) rfl rfl rfl ?_
  all_goals exact g_fin ⟨.inl rfl, id, _, rfl, .refl _, trivial, rfl, rfl⟩

theorem rtext4 (r : Rw) (hr : 1 ≤ r.length ∧ r.length ≤ 500) : FnOK Tryz.prog 42 [aggS (stR 6 [r]), aggS [ki 4, intsP []]] [] (.tup [aggS (stR 6 [r]), aggS (rsR (okR r.length))]) [] := by
  have hrl : (r.map intR).length = r.length := List.length_map _
  have hY := yield_ok 6 [r] r.length
  refine fn_ok T Tryz.func42 (by kernel_rfl) rfl rfl rfl rfl fun C hC => ?_
  repeat' first
    | refine g_go T hC true 400 rfl rfl ?_
    | (exfalso; simp at h; done)
    | refine g_cond rfl (fun h => ?_) (fun h => ?_)
    | refine g_end T hC (by kernel_rfl) ?_
    | refine g_splitD (fun h => ?_) (fun h => ?_)
    | refine g_splitG rfl rfl rfl (fun h => ?_) (fun h => ?_)
    | refine g_splitP rfl rfl (fun h => ?_) (fun h => ?_)
    | refine g_idx T hC (rows := [r].map rowR) rfl rfl rfl (by decide) rfl rfl rfl ?_
    | (rw [hrl]; refine g_call hC hY rfl rfl (LeSs.refl _) rfl rfl rfl ?_)
  all_goals exact g_fin ⟨.inl rfl, id, _, rfl, .refl _, trivial, rfl, rfl⟩

theorem rtext1f (r : Rw) (hr : 1 ≤ r.length ∧ r.length ≤ 500) (p : List Int) (hp : 1 ≤ p.length ∧ p.length ≤ 64) (h5 : 500 < r.length + p.length) : FnOK Tryz.prog 42 [aggS (stR 6 [r]), aggS [ki 1, intsP p]] [] (.tup [aggS (stR 6 [r]), aggS (rsR (erR 4))]) [] := by
  have hpl : (p.map intR).length = p.length := List.length_map _
  have hrl : (r.map intR).length = r.length := List.length_map _
  have hY := fail_ok 6 [r] 4
  have hw : IntKind.i64.wrap (((r.map intR).length : Int) + ((p.map intR).length : Int)) = ((r.length + p.length : Nat) : Int) := by rw [hrl, hpl, wrap64 (by omega)]; omega
  refine fn_ok T Tryz.func42 (by kernel_rfl) rfl rfl rfl rfl fun C hC => ?_
  repeat' first
    | refine g_go T hC true 400 rfl rfl ?_
    | (exfalso; simp at h; done)
    | (exfalso; rw [hw] at h; have h2 := of_decide_eq_false h; omega)
    | refine g_cond rfl (fun h => ?_) (fun h => ?_)
    | refine g_end T hC (by kernel_rfl) ?_
    | refine g_splitD (fun h => ?_) (fun h => ?_)
    | refine g_splitG rfl rfl rfl (fun h => ?_) (fun h => ?_)
    | refine g_splitP rfl rfl (fun h => ?_) (fun h => ?_)
    | refine g_idx T hC (rows := [r].map rowR) rfl rfl rfl (by decide) rfl rfl rfl ?_
    | refine g_call hC (hY) rfl rfl (LeSs.refl _) rfl rfl rfl ?_
  all_goals exact g_fin ⟨.inl rfl, id, _, rfl, .refl _, trivial, rfl, rfl⟩

theorem rtext1 (r : Rw) (hr : 1 ≤ r.length ∧ r.length ≤ 500) (p : List Int) (hp : 1 ≤ p.length ∧ p.length ≤ 64) (h5 : r.length + p.length ≤ 500) : FnOK Tryz.prog 42 [aggS (stR 6 [r]), aggS [ki 1, intsP p]] [] (.tup [aggS (stR 6 [(r ++ p)]), aggS (rsR (okR 0))]) [] := by
  have hpl : (p.map intR).length = p.length := List.length_map _
  have hrl : (r.map intR).length = r.length := List.length_map _
  have hw : IntKind.i64.wrap (((r.map intR).length : Int) + ((p.map intR).length : Int)) = ((r.length + p.length : Nat) : Int) := by rw [hrl, hpl, wrap64 (by omega)]; omega
  have hY := yield_ok 6 [(r ++ p)] 0
  have hRw := row_ok r (by omega)
  refine fn_ok T Tryz.func42 (by kernel_rfl) rfl rfl rfl rfl fun C hC => ?_
  repeat' first
    | refine g_go T hC true 400 rfl rfl ?_
    | (exfalso; simp at h; done)
    | (exfalso; rw [hw] at h; have h2 := of_decide_eq_true h; omega)
    | refine g_cond rfl (fun h => ?_) (fun h => ?_)
    | refine g_end T hC (by kernel_rfl) ?_
    | refine g_splitD (fun h => ?_) (fun h => ?_)
    | refine g_splitG rfl rfl rfl (fun h => ?_) (fun h => ?_)
    | refine g_splitP rfl rfl (fun h => ?_) (fun h => ?_)
    | refine g_idx T hC (rows := [r].map rowR) rfl rfl rfl (by decide) rfl rfl rfl ?_
    | (refine g_callR hC hRw (nm [103]) rfl rfl (LeSs.refl _) rfl rfl rfl rfl rfl rfl rfl rfl ?_)
    | refine g_append T 106 hC (id := 103) (rows := (r : List Int).map intR) (rows2 := p.map intR) (rows3 := (r ++ p).map intR) (bytes := 8) rfl rfl rfl rfl (SrcS.sl (T.es_ok _ _ rfl)) (List.map_append).symm rfl rfl rfl (by kernel_rfl) (by rw [hpl, hrl]; omega) (by rw [hpl, hrl]; omega) rfl rfl rfl ?_
    | (refine g_litW T hC [PC.a 0] [106] rfl rfl rfl rfl rfl rfl rfl rfl rfl rfl rfl rfl ?_)
  refine g_bag hC rfl 120 1 rfl ?_
  refine g_take hC rfl 120 106 121 (e := 1) (L := []) (rs := (r ++ p).map intR) rfl rfl rfl rfl [] trivial [(1046, vg 121 1)] ⟨⟨_, rfl, rfl, rw_lone⟩, trivial⟩ ?_
  refine g_freezeN rfl [(1046, vg 121 [(r ++ p)].length), (121, bg [(r ++ p)])] rfl [(48, aggS (stR 6 [(r ++ p)]))] ⟨⟨_, rfl, LnS.agg (.cons (.refl _) (.cons (lend2 1046 121 _) .nil))⟩, trivial⟩ [] trivial ?_
  repeat' first
    | refine g_go T hC true 400 rfl rfl ?_
    | refine g_cond rfl (fun h => ?_) (fun h => ?_)
    | refine g_end T hC (by kernel_rfl) ?_
    | refine g_splitD (fun h => ?_) (fun h => ?_)
    | refine g_splitG rfl rfl rfl (fun h => ?_) (fun h => ?_)
    | refine g_splitP rfl rfl (fun h => ?_) (fun h => ?_)
    | refine g_call hC (hY) rfl rfl (LeSs.refl _) rfl rfl rfl ?_
  all_goals exact g_fin ⟨.inl rfl, id, _, rfl, .refl _, trivial, rfl, rfl⟩

theorem rtext1n (p : List Int) (hp : 1 ≤ p.length ∧ p.length ≤ 64) : FnOK Tryz.prog 42 [aggS (stR 6 []), aggS [ki 1, intsP p]] [] (.tup [aggS (stR 6 [p]), aggS (rsR (okR 0))]) [] := by
  have hpl : (p.map intR).length = p.length := List.length_map _
  have hw : IntKind.i64.wrap ((0 : Int) + ((p.map intR).length : Int)) = ((p.length : Nat) : Int) := by rw [hpl, wrap64 (by omega)]; omega
  have hY := yield_ok 6 [p] 0
  have hRw := row_ok [] (by simp)
  refine fn_ok T Tryz.func42 (by kernel_rfl) rfl rfl rfl rfl fun C hC => ?_
  repeat' first
    | refine g_go T hC true 400 rfl rfl ?_
    | (exfalso; simp at h; done)
    | (exfalso; rw [hw] at h; have h2 := of_decide_eq_true h; omega)
    | refine g_cond rfl (fun h => ?_) (fun h => ?_)
    | refine g_end T hC (by kernel_rfl) ?_
    | refine g_splitD (fun h => ?_) (fun h => ?_)
    | refine g_splitG rfl rfl rfl (fun h => ?_) (fun h => ?_)
    | refine g_splitP rfl rfl (fun h => ?_) (fun h => ?_)
    | (refine g_callR hC hRw (nm [103]) rfl rfl (LeSs.cons (LeS.one (.nil 1)) (LeSs.refl _)) rfl rfl rfl rfl rfl rfl rfl rfl ?_)
    | refine g_append T 106 hC (id := 103) (rows := ([] : List Int).map intR) (rows2 := p.map intR) (rows3 := p.map intR) (bytes := 8) rfl rfl rfl rfl (SrcS.sl (T.es_ok _ _ rfl)) rfl rfl rfl rfl (by kernel_rfl) (by rw [hpl]; simp only [List.map_nil, List.length_nil]; omega) (by rw [hpl]; simp only [List.map_nil, List.length_nil]; omega) rfl rfl rfl ?_
    | (refine g_litW T hC [PC.a 0] [106] rfl rfl rfl rfl rfl rfl rfl rfl rfl rfl rfl rfl ?_)
  refine g_bag hC rfl 120 1 rfl ?_
  refine g_take hC rfl 120 106 121 (e := 1) (L := []) (rs := p.map intR) rfl rfl rfl rfl [] trivial [(1046, vg 121 1)] ⟨⟨_, rfl, rfl, rw_lone⟩, trivial⟩ ?_
  refine g_freezeN rfl [(1046, vg 121 [p].length), (121, bg [p])] rfl [(48, aggS (stR 6 [p]))] ⟨⟨_, rfl, LnS.agg (.cons (.refl _) (.cons (lend2 1046 121 _) .nil))⟩, trivial⟩ [] trivial ?_
  repeat' first
    | refine g_go T hC true 400 rfl rfl ?_
    | refine g_cond rfl (fun h => ?_) (fun h => ?_)
    | refine g_end T hC (by kernel_rfl) ?_
    | refine g_splitD (fun h => ?_) (fun h => ?_)
    | refine g_splitG rfl rfl rfl (fun h => ?_) (fun h => ?_)
    | refine g_splitP rfl rfl (fun h => ?_) (fun h => ?_)
    | refine g_call hC (hY) rfl rfl (LeSs.refl _) rfl rfl rfl ?_
  all_goals exact g_fin ⟨.inl rfl, id, _, rfl, .refl _, trivial, rfl, rfl⟩

theorem rtext2 (r : Rw) (hr : 1 ≤ r.length ∧ r.length ≤ 500) (p : List Int) (hp : 1 ≤ p.length ∧ p.length ≤ 64) : FnOK Tryz.prog 42 [aggS (stR 6 [r]), aggS [ki 2, intsP p]] [] (.tup [aggS (stR 6 [r]), aggS (rsR (okR (occs r p).length))]) [] := by
  have hrl : (r.map intR).length = r.length := List.length_map _
  have hY := yield_ok 6 [r] (occs r p).length
  refine fn_ok T Tryz.func42 (by kernel_rfl) rfl rfl rfl rfl fun C hC => ?_
  repeat' first
    | refine g_go T hC true 400 rfl rfl ?_
    | (exfalso; simp at h; done)
    | refine g_cond rfl (fun h => ?_) (fun h => ?_)
    | refine g_end T hC (by kernel_rfl) ?_
    | refine g_splitD (fun h => ?_) (fun h => ?_)
    | refine g_splitG rfl rfl rfl (fun h => ?_) (fun h => ?_)
    | refine g_splitP rfl rfl (fun h => ?_) (fun h => ?_)
    | refine g_idx T hC (rows := [r].map rowR) rfl rfl rfl (by decide) rfl rfl rfl ?_
  refine g_loop (fun i : Nat => i ≤ r.length) (fun i => ([(2, .one (.bx 1002 0)), (3, .one (.bx 1003 0)), (4, .one (.bx 1004 0)), (5, .one (.bx 1005 0)), (6, pS (intsP r)), (7, I ((occT r p i).length)), (8, I (hdI (occT r p i))), (9, I i)], [(1002, some (.box [.p (ki 6), .p (rowsP [r])])), (1003, some (.box [.p (ki 2), .p (intsP p)])), (1004, some (.box [.p (ki 0), .p (.k (.slice none 0 0))])), (1005, some (.box [.p (ki 0), .p (ki 0), .p (.k (.slice none 0 0))]))])) (fun i => r.length - i) hC
    0 (Nat.zero_le _) id ⟨rfl, ⟨rfl, rfl, rfl, rfl, rfl, rfl, rfl, rfl, trivial⟩, ⟨rfl, rfl, rfl, rfl, trivial⟩, rfl, fun _ _ => rfl⟩ ?_
  intro i hi
  refine g_run' T hC true 200 rfl ?_
  refine g_cond rfl (fun h => ?_) (fun h => ?_)
  · have hlt : i < r.length := by simpa using h
    clear h
    have hO := occurs_ok r i p (by omega) (by omega) (by omega)
    have hln := occT_len r p i
    cases hq : occL r p i with
    | true =>
      rw [hq] at hO
      have hs := hdI_snoc (occT r p i) i
      have hy := occT_yes hq
      have hle := hdI_le (l := occT r p i) (n := i) fun x hx => occT_lt hx
      by_cases c1 : hdI (occT r p i) < 0
      · rw [if_pos c1] at hs
        repeat' first
          | refine g_go T hC true 400 rfl rfl ?_
          | (exfalso; simp at h; done)
          | (exact absurd c1 (of_decide_eq_false h))
          | refine g_cond rfl (fun h => ?_) (fun h => ?_)
          | refine g_end T hC (by kernel_rfl) ?_
          | refine g_splitD (fun h => ?_) (fun h => ?_)
          | refine g_splitG rfl rfl rfl (fun h => ?_) (fun h => ?_)
          | refine g_splitP rfl rfl (fun h => ?_) (fun h => ?_)
          | refine g_call hC (hO) rfl rfl (LeSs.refl _) rfl rfl rfl ?_
        rw [wrapS (by omega), wrapS (by omega)]
        refine g_round (i + 1) (by omega) id (by omega) ?_
        rw [hy, hs, List.length_append, List.length_singleton]
        exact ⟨rfl, ⟨rfl, rfl, rfl, rfl, rfl, rfl, rfl, rfl, trivial⟩, ⟨rfl, rfl, rfl, rfl, trivial⟩, rfl, fun _ _ => rfl⟩
      · rw [if_neg c1] at hs
        repeat' first
          | refine g_go T hC true 400 rfl rfl ?_
          | (exfalso; simp at h; done)
          | (exact absurd (of_decide_eq_true h) c1)
          | refine g_cond rfl (fun h => ?_) (fun h => ?_)
          | refine g_end T hC (by kernel_rfl) ?_
          | refine g_splitD (fun h => ?_) (fun h => ?_)
          | refine g_splitG rfl rfl rfl (fun h => ?_) (fun h => ?_)
          | refine g_splitP rfl rfl (fun h => ?_) (fun h => ?_)
          | refine g_call hC (hO) rfl rfl (LeSs.refl _) rfl rfl rfl ?_
        rw [wrapS (by omega), wrapS (by omega)]
        refine g_round (i + 1) (by omega) id (by omega) ?_
        rw [hy, hs, List.length_append, List.length_singleton]
        exact ⟨rfl, ⟨rfl, rfl, rfl, rfl, rfl, rfl, rfl, rfl, trivial⟩, ⟨rfl, rfl, rfl, rfl, trivial⟩, rfl, fun _ _ => rfl⟩
    | false =>
      rw [hq] at hO
      repeat' first
        | refine g_go T hC true 400 rfl rfl ?_
        | (exfalso; simp at h; done)
        | refine g_cond rfl (fun h => ?_) (fun h => ?_)
        | refine g_end T hC (by kernel_rfl) ?_
        | refine g_splitD (fun h => ?_) (fun h => ?_)
        | refine g_splitG rfl rfl rfl (fun h => ?_) (fun h => ?_)
        | refine g_splitP rfl rfl (fun h => ?_) (fun h => ?_)
        | refine g_call hC (hO) rfl rfl (LeSs.refl _) rfl rfl rfl ?_
      rw [wrapS (by omega), ← occT_no hq]
      exact g_round (i + 1) (by omega) id (by omega) ⟨rfl, ⟨rfl, rfl, rfl, rfl, rfl, rfl, rfl, rfl, trivial⟩, ⟨rfl, rfl, rfl, rfl, trivial⟩, rfl, fun _ _ => rfl⟩
  have hge : ¬ i < r.length := by simpa using h
  have e : i = r.length := by omega
  subst e
  clear h
  rw [show occT r p r.length = occs r p from rfl]
  repeat' first
    | refine g_go T hC true 400 rfl rfl ?_
    | (exfalso; simp at h; done)
    | refine g_cond rfl (fun h => ?_) (fun h => ?_)
    | refine g_end T hC (by kernel_rfl) ?_
    | refine g_splitD (fun h => ?_) (fun h => ?_)
    | refine g_splitG rfl rfl rfl (fun h => ?_) (fun h => ?_)
    | refine g_splitP rfl rfl (fun h => ?_) (fun h => ?_)
    | refine g_outE ?_
    | refine g_call hC (hY) rfl rfl (LeSs.refl _) rfl rfl rfl ?_
  all_goals exact g_fin ⟨.inl rfl, id, _, rfl, .refl _, trivial, rfl, rfl⟩

theorem rtext3m (r : Rw) (hr : 1 ≤ r.length ∧ r.length ≤ 500) (p : List Int) (hp : 1 ≤ p.length ∧ p.length ≤ 64) (ho : occs r p = []) : FnOK Tryz.prog 42 [aggS (stR 6 [r]), aggS [ki 3, intsP p]] [] (.tup [aggS (stR 6 [r]), aggS (rsR (erR 12))]) [] := by
  have hrl : (r.map intR).length = r.length := List.length_map _
  have hY := fail_ok 6 [r] 12
  refine fn_ok T Tryz.func42 (by kernel_rfl) rfl rfl rfl rfl fun C hC => ?_
  repeat' first
    | refine g_go T hC true 400 rfl rfl ?_
    | (exfalso; simp at h; done)
    | refine g_cond rfl (fun h => ?_) (fun h => ?_)
    | refine g_end T hC (by kernel_rfl) ?_
    | refine g_splitD (fun h => ?_) (fun h => ?_)
    | refine g_splitG rfl rfl rfl (fun h => ?_) (fun h => ?_)
    | refine g_splitP rfl rfl (fun h => ?_) (fun h => ?_)
    | refine g_idx T hC (rows := [r].map rowR) rfl rfl rfl (by decide) rfl rfl rfl ?_
  refine g_loop (fun i : Nat => i ≤ r.length) (fun i => ([(2, .one (.bx 1002 0)), (3, .one (.bx 1003 0)), (4, .one (.bx 1004 0)), (5, .one (.bx 1005 0)), (6, pS (intsP r)), (7, I ((occT r p i).length)), (8, I (hdI (occT r p i))), (9, I i)], [(1002, some (.box [.p (ki 6), .p (rowsP [r])])), (1003, some (.box [.p (ki 3), .p (intsP p)])), (1004, some (.box [.p (ki 0), .p (.k (.slice none 0 0))])), (1005, some (.box [.p (ki 0), .p (ki 0), .p (.k (.slice none 0 0))]))])) (fun i => r.length - i) hC
    0 (Nat.zero_le _) id ⟨rfl, ⟨rfl, rfl, rfl, rfl, rfl, rfl, rfl, rfl, trivial⟩, ⟨rfl, rfl, rfl, rfl, trivial⟩, rfl, fun _ _ => rfl⟩ ?_
  intro i hi
  refine g_run' T hC true 200 rfl ?_
  refine g_cond rfl (fun h => ?_) (fun h => ?_)
  · have hlt : i < r.length := by simpa using h
    clear h
    have hO := occurs_ok r i p (by omega) (by omega) (by omega)
    have hln := occT_len r p i
    cases hq : occL r p i with
    | true =>
      rw [hq] at hO
      have hs := hdI_snoc (occT r p i) i
      have hy := occT_yes hq
      have hle := hdI_le (l := occT r p i) (n := i) fun x hx => occT_lt hx
      by_cases c1 : hdI (occT r p i) < 0
      · rw [if_pos c1] at hs
        repeat' first
          | refine g_go T hC true 400 rfl rfl ?_
          | (exfalso; simp at h; done)
          | (exact absurd c1 (of_decide_eq_false h))
          | refine g_cond rfl (fun h => ?_) (fun h => ?_)
          | refine g_end T hC (by kernel_rfl) ?_
          | refine g_splitD (fun h => ?_) (fun h => ?_)
          | refine g_splitG rfl rfl rfl (fun h => ?_) (fun h => ?_)
          | refine g_splitP rfl rfl (fun h => ?_) (fun h => ?_)
          | refine g_call hC (hO) rfl rfl (LeSs.refl _) rfl rfl rfl ?_
        rw [wrapS (by omega), wrapS (by omega)]
        refine g_round (i + 1) (by omega) id (by omega) ?_
        rw [hy, hs, List.length_append, List.length_singleton]
        exact ⟨rfl, ⟨rfl, rfl, rfl, rfl, rfl, rfl, rfl, rfl, trivial⟩, ⟨rfl, rfl, rfl, rfl, trivial⟩, rfl, fun _ _ => rfl⟩
      · rw [if_neg c1] at hs
        repeat' first
          | refine g_go T hC true 400 rfl rfl ?_
          | (exfalso; simp at h; done)
          | (exact absurd (of_decide_eq_true h) c1)
          | refine g_cond rfl (fun h => ?_) (fun h => ?_)
          | refine g_end T hC (by kernel_rfl) ?_
          | refine g_splitD (fun h => ?_) (fun h => ?_)
          | refine g_splitG rfl rfl rfl (fun h => ?_) (fun h => ?_)
          | refine g_splitP rfl rfl (fun h => ?_) (fun h => ?_)
          | refine g_call hC (hO) rfl rfl (LeSs.refl _) rfl rfl rfl ?_
        rw [wrapS (by omega), wrapS (by omega)]
        refine g_round (i + 1) (by omega) id (by omega) ?_
        rw [hy, hs, List.length_append, List.length_singleton]
        exact ⟨rfl, ⟨rfl, rfl, rfl, rfl, rfl, rfl, rfl, rfl, trivial⟩, ⟨rfl, rfl, rfl, rfl, trivial⟩, rfl, fun _ _ => rfl⟩
    | false =>
      rw [hq] at hO
      repeat' first
        | refine g_go T hC true 400 rfl rfl ?_
        | (exfalso; simp at h; done)
        | refine g_cond rfl (fun h => ?_) (fun h => ?_)
        | refine g_end T hC (by kernel_rfl) ?_
        | refine g_splitD (fun h => ?_) (fun h => ?_)
        | refine g_splitG rfl rfl rfl (fun h => ?_) (fun h => ?_)
        | refine g_splitP rfl rfl (fun h => ?_) (fun h => ?_)
        | refine g_call hC (hO) rfl rfl (LeSs.refl _) rfl rfl rfl ?_
      rw [wrapS (by omega), ← occT_no hq]
      exact g_round (i + 1) (by omega) id (by omega) ⟨rfl, ⟨rfl, rfl, rfl, rfl, rfl, rfl, rfl, rfl, trivial⟩, ⟨rfl, rfl, rfl, rfl, trivial⟩, rfl, fun _ _ => rfl⟩
  have hge : ¬ i < r.length := by simpa using h
  have e : i = r.length := by omega
  subst e
  clear h
  rw [show occT r p r.length = occs r p from rfl]
  rw [ho]
  have h0 : hdI [] < 0 := by decide
  repeat' first
    | refine g_go T hC true 400 rfl rfl ?_
    | (exfalso; simp at h; done)
    | (exact absurd h0 (of_decide_eq_false h))
    | refine g_cond rfl (fun h => ?_) (fun h => ?_)
    | refine g_end T hC (by kernel_rfl) ?_
    | refine g_splitD (fun h => ?_) (fun h => ?_)
    | refine g_splitG rfl rfl rfl (fun h => ?_) (fun h => ?_)
    | refine g_splitP rfl rfl (fun h => ?_) (fun h => ?_)
    | refine g_outE ?_
    | refine g_call hC (hY) rfl rfl (LeSs.refl _) rfl rfl rfl ?_
  all_goals exact g_fin ⟨.inl rfl, id, _, rfl, .refl _, trivial, rfl, rfl⟩

theorem rtext3 (r : Rw) (hr : 1 ≤ r.length ∧ r.length ≤ 500) (p : List Int) (hp : 1 ≤ p.length ∧ p.length ≤ 64) (ho : occs r p ≠ []) : FnOK Tryz.prog 42 [aggS (stR 6 [r]), aggS [ki 3, intsP p]] [] (.tup [aggS (stR 6 [r]), aggS (rsR (okR (hdI (occs r p))))]) [] := by
  have hrl : (r.map intR).length = r.length := List.length_map _
  have hY := yield_ok 6 [r] (hdI (occs r p))
  have h0 : ¬ hdI (occs r p) < 0 := fun e => ho (hdI_nonneg.1 e)
  refine fn_ok T Tryz.func42 (by kernel_rfl) rfl rfl rfl rfl fun C hC => ?_
  repeat' first
    | refine g_go T hC true 400 rfl rfl ?_
    | (exfalso; simp at h; done)
    | refine g_cond rfl (fun h => ?_) (fun h => ?_)
    | refine g_end T hC (by kernel_rfl) ?_
    | refine g_splitD (fun h => ?_) (fun h => ?_)
    | refine g_splitG rfl rfl rfl (fun h => ?_) (fun h => ?_)
    | refine g_splitP rfl rfl (fun h => ?_) (fun h => ?_)
    | refine g_idx T hC (rows := [r].map rowR) rfl rfl rfl (by decide) rfl rfl rfl ?_
  refine g_loop (fun i : Nat => i ≤ r.length) (fun i => ([(2, .one (.bx 1002 0)), (3, .one (.bx 1003 0)), (4, .one (.bx 1004 0)), (5, .one (.bx 1005 0)), (6, pS (intsP r)), (7, I ((occT r p i).length)), (8, I (hdI (occT r p i))), (9, I i)], [(1002, some (.box [.p (ki 6), .p (rowsP [r])])), (1003, some (.box [.p (ki 3), .p (intsP p)])), (1004, some (.box [.p (ki 0), .p (.k (.slice none 0 0))])), (1005, some (.box [.p (ki 0), .p (ki 0), .p (.k (.slice none 0 0))]))])) (fun i => r.length - i) hC
    0 (Nat.zero_le _) id ⟨rfl, ⟨rfl, rfl, rfl, rfl, rfl, rfl, rfl, rfl, trivial⟩, ⟨rfl, rfl, rfl, rfl, trivial⟩, rfl, fun _ _ => rfl⟩ ?_
  intro i hi
  refine g_run' T hC true 200 rfl ?_
  refine g_cond rfl (fun h => ?_) (fun h => ?_)
  · have hlt : i < r.length := by simpa using h
    clear h
    have hO := occurs_ok r i p (by omega) (by omega) (by omega)
    have hln := occT_len r p i
    cases hq : occL r p i with
    | true =>
      rw [hq] at hO
      have hs := hdI_snoc (occT r p i) i
      have hy := occT_yes hq
      have hle := hdI_le (l := occT r p i) (n := i) fun x hx => occT_lt hx
      by_cases c1 : hdI (occT r p i) < 0
      · rw [if_pos c1] at hs
        repeat' first
          | refine g_go T hC true 400 rfl rfl ?_
          | (exfalso; simp at h; done)
          | (exact absurd c1 (of_decide_eq_false h))
          | refine g_cond rfl (fun h => ?_) (fun h => ?_)
          | refine g_end T hC (by kernel_rfl) ?_
          | refine g_splitD (fun h => ?_) (fun h => ?_)
          | refine g_splitG rfl rfl rfl (fun h => ?_) (fun h => ?_)
          | refine g_splitP rfl rfl (fun h => ?_) (fun h => ?_)
          | refine g_call hC (hO) rfl rfl (LeSs.refl _) rfl rfl rfl ?_
        rw [wrapS (by omega), wrapS (by omega)]
        refine g_round (i + 1) (by omega) id (by omega) ?_
        rw [hy, hs, List.length_append, List.length_singleton]
        exact ⟨rfl, ⟨rfl, rfl, rfl, rfl, rfl, rfl, rfl, rfl, trivial⟩, ⟨rfl, rfl, rfl, rfl, trivial⟩, rfl, fun _ _ => rfl⟩
      · rw [if_neg c1] at hs
        repeat' first
          | refine g_go T hC true 400 rfl rfl ?_
          | (exfalso; simp at h; done)
          | (exact absurd (of_decide_eq_true h) c1)
          | refine g_cond rfl (fun h => ?_) (fun h => ?_)
          | refine g_end T hC (by kernel_rfl) ?_
          | refine g_splitD (fun h => ?_) (fun h => ?_)
          | refine g_splitG rfl rfl rfl (fun h => ?_) (fun h => ?_)
          | refine g_splitP rfl rfl (fun h => ?_) (fun h => ?_)
          | refine g_call hC (hO) rfl rfl (LeSs.refl _) rfl rfl rfl ?_
        rw [wrapS (by omega), wrapS (by omega)]
        refine g_round (i + 1) (by omega) id (by omega) ?_
        rw [hy, hs, List.length_append, List.length_singleton]
        exact ⟨rfl, ⟨rfl, rfl, rfl, rfl, rfl, rfl, rfl, rfl, trivial⟩, ⟨rfl, rfl, rfl, rfl, trivial⟩, rfl, fun _ _ => rfl⟩
    | false =>
      rw [hq] at hO
      repeat' first
        | refine g_go T hC true 400 rfl rfl ?_
        | (exfalso; simp at h; done)
        | refine g_cond rfl (fun h => ?_) (fun h => ?_)
        | refine g_end T hC (by kernel_rfl) ?_
        | refine g_splitD (fun h => ?_) (fun h => ?_)
        | refine g_splitG rfl rfl rfl (fun h => ?_) (fun h => ?_)
        | refine g_splitP rfl rfl (fun h => ?_) (fun h => ?_)
        | refine g_call hC (hO) rfl rfl (LeSs.refl _) rfl rfl rfl ?_
      rw [wrapS (by omega), ← occT_no hq]
      exact g_round (i + 1) (by omega) id (by omega) ⟨rfl, ⟨rfl, rfl, rfl, rfl, rfl, rfl, rfl, rfl, trivial⟩, ⟨rfl, rfl, rfl, rfl, trivial⟩, rfl, fun _ _ => rfl⟩
  have hge : ¬ i < r.length := by simpa using h
  have e : i = r.length := by omega
  subst e
  clear h
  rw [show occT r p r.length = occs r p from rfl]
  repeat' first
    | refine g_go T hC true 400 rfl rfl ?_
    | (exfalso; simp at h; done)
    | (exact absurd (of_decide_eq_true h) h0)
    | refine g_cond rfl (fun h => ?_) (fun h => ?_)
    | refine g_end T hC (by kernel_rfl) ?_
    | refine g_splitD (fun h => ?_) (fun h => ?_)
    | refine g_splitG rfl rfl rfl (fun h => ?_) (fun h => ?_)
    | refine g_splitP rfl rfl (fun h => ?_) (fun h => ?_)
    | refine g_outE ?_
    | refine g_call hC (hY) rfl rfl (LeSs.refl _) rfl rfl rfl ?_
  all_goals exact g_fin ⟨.inl rfl, id, _, rfl, .refl _, trivial, rfl, rfl⟩

theorem rtext2n (p : List Int) (hp : 1 ≤ p.length ∧ p.length ≤ 64) : FnOK Tryz.prog 42 [aggS (stR 6 []), aggS [ki 2, intsP p]] [] (.tup [aggS (stR 6 []), aggS (rsR (okR 0))]) [] := by
  have hY := yield_ok 6 [] 0
  refine fn_ok T Tryz.func42 (by kernel_rfl) rfl rfl rfl rfl fun C hC => ?_
  repeat' first
    | refine g_go T hC true 400 rfl rfl ?_
    | (exfalso; simp at h; done)
    | refine g_cond rfl (fun h => ?_) (fun h => ?_)
    | refine g_end T hC (by kernel_rfl) ?_
    | refine g_splitD (fun h => ?_) (fun h => ?_)
    | refine g_splitG rfl rfl rfl (fun h => ?_) (fun h => ?_)
    | refine g_splitP rfl rfl (fun h => ?_) (fun h => ?_)
  refine g_loop (fun _ : Unit => True) (fun _ => ([(2, .one (.bx 1002 0)), (3, .one (.bx 1003 0)), (4, .one (.bx 1004 0)), (5, .one (.bx 1005 0)), (6, .one (.p (.k (.slice none 0 0)))), (7, I 0), (8, I (-1)), (9, I 0)], [(1002, some (.box [.p (ki 6), .p (rowsP [])])), (1003, some (.box [.p (ki 2), .p (intsP p)])), (1004, some (.box [.p (ki 0), .p (.k (.slice none 0 0))])), (1005, some (.box [.p (ki 0), .p (ki 0), .p (.k (.slice none 0 0))]))])) (fun _ => 0) hC
    () trivial id ⟨rfl, ⟨rfl, rfl, rfl, rfl, rfl, rfl, rfl, rfl, trivial⟩, ⟨rfl, rfl, rfl, rfl, trivial⟩, rfl, fun _ _ => rfl⟩ ?_
  intro _ _
  repeat' first
    | refine g_go T hC true 400 rfl rfl ?_
    | (exfalso; simp at h; done)
    | refine g_cond rfl (fun h => ?_) (fun h => ?_)
    | refine g_end T hC (by kernel_rfl) ?_
    | refine g_splitD (fun h => ?_) (fun h => ?_)
    | refine g_splitG rfl rfl rfl (fun h => ?_) (fun h => ?_)
    | refine g_splitP rfl rfl (fun h => ?_) (fun h => ?_)
    | refine g_outE ?_
    | refine g_call hC (hY) rfl rfl (LeSs.refl _) rfl rfl rfl ?_
  all_goals exact g_fin ⟨.inl rfl, id, _, rfl, .refl _, trivial, rfl, rfl⟩

theorem rtext3n (p : List Int) (hp : 1 ≤ p.length ∧ p.length ≤ 64) : FnOK Tryz.prog 42 [aggS (stR 6 []), aggS [ki 3, intsP p]] [] (.tup [aggS (stR 6 []), aggS (rsR (erR 12))]) [] := by
  have hY := fail_ok 6 [] 12
  refine fn_ok T Tryz.func42 (by kernel_rfl) rfl rfl rfl rfl fun C hC => ?_
  repeat' first
    | refine g_go T hC true 400 rfl rfl ?_
    | (exfalso; simp at h; done)
    | refine g_cond rfl (fun h => ?_) (fun h => ?_)
    | refine g_end T hC (by kernel_rfl) ?_
    | refine g_splitD (fun h => ?_) (fun h => ?_)
    | refine g_splitG rfl rfl rfl (fun h => ?_) (fun h => ?_)
    | refine g_splitP rfl rfl (fun h => ?_) (fun h => ?_)
  refine g_loop (fun _ : Unit => True) (fun _ => ([(2, .one (.bx 1002 0)), (3, .one (.bx 1003 0)), (4, .one (.bx 1004 0)), (5, .one (.bx 1005 0)), (6, .one (.p (.k (.slice none 0 0)))), (7, I 0), (8, I (-1)), (9, I 0)], [(1002, some (.box [.p (ki 6), .p (rowsP [])])), (1003, some (.box [.p (ki 3), .p (intsP p)])), (1004, some (.box [.p (ki 0), .p (.k (.slice none 0 0))])), (1005, some (.box [.p (ki 0), .p (ki 0), .p (.k (.slice none 0 0))]))])) (fun _ => 0) hC
    () trivial id ⟨rfl, ⟨rfl, rfl, rfl, rfl, rfl, rfl, rfl, rfl, trivial⟩, ⟨rfl, rfl, rfl, rfl, trivial⟩, rfl, fun _ _ => rfl⟩ ?_
  intro _ _
  repeat' first
    | refine g_go T hC true 400 rfl rfl ?_
    | (exfalso; simp at h; done)
    | refine g_cond rfl (fun h => ?_) (fun h => ?_)
    | refine g_end T hC (by kernel_rfl) ?_
    | refine g_splitD (fun h => ?_) (fun h => ?_)
    | refine g_splitG rfl rfl rfl (fun h => ?_) (fun h => ?_)
    | refine g_splitP rfl rfl (fun h => ?_) (fun h => ?_)
    | refine g_outE ?_
    | refine g_call hC (hY) rfl rfl (LeSs.refl _) rfl rfl rfl ?_
  all_goals exact g_fin ⟨.inl rfl, id, _, rfl, .refl _, trivial, rfl, rfl⟩

theorem rtext_ok (R : Rws) (o : OpT) (hv : validS 6 R = true) (ho : okOp 6 o = true) :
    FnOK Tryz.prog 42 [aggS (stR 6 R), aggS (opR o)] [] (.tup [aggS (stR 6 (textS R o).1), aggS (rsR (textS R o).2)]) [] := by
  rcases op6 ho with ⟨p, hc, hp, hn⟩ | rfl
  · rcases valid6 hv with rfl | ⟨r, rfl, h1, h2, _⟩
    · rcases hc with rfl | rfl | rfl
      · have e : textS [] ⟨1, p⟩ = ([p], okR 0) := by simp only [textS]; rw [if_neg (by decide), if_pos trivial, if_neg (by simp [rowA]; omega)]; rfl
        rw [e]; exact rtext1n p hp
      · exact rtext2n p hp
      · exact rtext3n p hp
    · rcases hc with rfl | rfl | rfl
      · by_cases h5 : 500 < r.length + p.length
        · have e : textS [r] ⟨1, p⟩ = ([r], erR 4) := by simp only [textS]; rw [if_neg (by decide), if_pos trivial]; exact if_pos h5
          rw [e]; exact rtext1f r ⟨h1, h2⟩ p hp h5
        · have e : textS [r] ⟨1, p⟩ = ([r ++ p], okR 0) := by simp only [textS]; rw [if_neg (by decide), if_pos trivial]; exact if_neg h5
          rw [e]; exact rtext1 r ⟨h1, h2⟩ p hp (by omega)
      · exact rtext2 r ⟨h1, h2⟩ p hp
      · have e0 : textS [r] ⟨3, p⟩ = match (occs r p).head? with | some i => ([r], okR i) | none => ([r], erR 12) := rfl
        by_cases h0 : occs r p = []
        · have e : textS [r] ⟨3, p⟩ = ([r], erR 12) := by rw [e0, h0]; rfl
          rw [e]; exact rtext3m r ⟨h1, h2⟩ p hp h0
        · have e : textS [r] ⟨3, p⟩ = ([r], okR (hdI (occs r p))) := by
            rw [e0]
            cases hh : occs r p with
            | nil => exact absurd hh h0
            | cons a l => rfl
          rw [e]; exact rtext3 r ⟨h1, h2⟩ p hp h0
  · rcases valid6 hv with rfl | ⟨r, rfl, h1, h2, _⟩
    · exact rtext4n
    · exact rtext4 r ⟨h1, h2⟩
end Hw.Mz
namespace Hw.Mz
open Go Go.Proofs Go.Shelf Hw.M

/-! models: the reference's steps -/
theorem rseq_pure (R : Rws) (o : OpT) (hv : validS 3 R = true) (ho : okOp 3 o = true) (h4 : ¬ (o.code = 4 ∧ 0 ≤ at0 o.args 0 ∧ at0 o.args 0 < R.length)) (h6 : ¬ (o.code = 6 ∧ 0 ≤ at0 o.args 0 ∧ at0 o.args 0 ≤ at0 o.args 1 ∧ at0 o.args 1 ≤ R.length)) :
    FnOK Tryz.prog 39 [aggS (stR 3 R), aggS (opR o)] [] (.tup [aggS (stR 3 (seqS R o).1), aggS (rsR (seqS R o).2)]) [] := by
  obtain ⟨hR, hT⟩ := valid3 hv
  have hrow : ∀ (i : Nat), i < R.length → R[i]? = some (rowA R i) ∧ (rowA R i).length = 1 := fun i hi => ⟨rowA_lt hi, hT.wide _ (List.mem_of_getElem? (rowA_lt hi))⟩
  have hcell : ∀ (i : Nat), i < R.length → (rowA R i)[0]? = some (at0 (rowA R i) 0) := fun i hi => at0_lt (by rw [(hrow i hi).2]; omega)
  have hn : ∀ r ∈ R, 0 < r.length ∧ -1048576 ≤ at0 r 0 ∧ at0 r 0 ≤ 1048576 := fun r hr => by
    have h1 := hT.wide r hr
    exact ⟨by omega, num_bd (hT.nums r hr _ (List.mem_of_getElem? (at0_lt (l := r) (i := 0) (by omega))))⟩
  rcases op3 ho with ⟨a, b, hc, ha, hb⟩ | ⟨a, hc, ha⟩ | rfl
  · rcases hc with rfl | rfl | rfl | rfl
    · by_cases h0 : a < 0 ∨ (R.length : Int) < a
      · have e : seqS R ⟨1, [a, b]⟩ = (R, erR 2) := by simp only [seqS]; rw [if_neg (by decide), if_neg (by decide), if_pos trivial]; exact if_pos h0
        rw [e]; exact rseq1e R hR a b h0
      · obtain ⟨i, rfl⟩ : ∃ i : Nat, a = i := ⟨a.toNat, by omega⟩
        by_cases h5 : R.length = 500
        · have e : seqS R ⟨1, [(i : Int), b]⟩ = (R, erR 4) := by simp only [seqS]; rw [if_neg (by decide), if_neg (by decide), if_pos trivial]; exact (if_neg h0).trans (if_pos h5)
          rw [e]; exact rseq1f R hR i b (by omega) h5
        · have e : seqS R ⟨1, [(i : Int), b]⟩ = (insR R i [b], okR 0) := by simp only [seqS]; rw [if_neg (by decide), if_neg (by decide), if_pos trivial]; exact (if_neg h0).trans (if_neg h5)
          rw [e]; exact rseq1 R hR i b (by omega) (by omega)
    · by_cases h0 : a < 0 ∨ (R.length : Int) ≤ a
      · have e : seqS R ⟨4, [a, b]⟩ = (R, erR 2) := by simp only [seqS]; rw [if_neg (by decide), if_neg (by decide), if_neg (by decide)]; exact if_pos h0
        rw [e]; exact rseq4e R hR a b h0
      · exact absurd ⟨rfl, show 0 ≤ a by omega, show a < R.length by omega⟩ h4
    · by_cases h0 : a < 0 ∨ b < a ∨ (R.length : Int) < b
      · have e : seqS R ⟨5, [a, b]⟩ = (R, erR 2) := by simp only [seqS]; rw [if_neg (by decide), if_pos (by simp)]; exact if_pos h0
        rw [e]; exact rseq5e R hR a b h0
      · obtain ⟨i, rfl⟩ : ∃ i : Nat, a = i := ⟨a.toNat, by omega⟩
        obtain ⟨m, rfl⟩ : ∃ m : Nat, b = ((i + m : Nat) : Int) := ⟨(b - i).toNat, by omega⟩
        have e : seqS R ⟨5, [(i : Int), ((i + m : Nat) : Int)]⟩ = (R, okR (sum0 ((R.take (i + m)).drop i))) := by simp only [seqS]; rw [if_neg (by decide), if_pos (by simp)]; exact (if_neg h0).trans (if_neg (by decide))
        rw [e]; exact rseq5 R hR i m (by omega) hn
    · by_cases h0 : a < 0 ∨ b < a ∨ (R.length : Int) < b
      · have e : seqS R ⟨6, [a, b]⟩ = (R, erR 2) := by simp only [seqS]; rw [if_neg (by decide), if_pos (by simp)]; exact if_pos h0
        rw [e]; exact rseq6e R hR a b h0
      · exact absurd ⟨rfl, show 0 ≤ a by omega, show a ≤ b by omega, show b ≤ R.length by omega⟩ h6
  · by_cases h0 : a < 0 ∨ (R.length : Int) ≤ a
    · rcases hc with rfl | rfl
      · have e : seqS R ⟨2, [a]⟩ = (R, erR 2) := by simp only [seqS]; rw [if_neg (by decide), if_neg (by decide), if_neg (by decide)]; exact if_pos h0
        rw [e]; exact rseq2e R hR a h0
      · have e : seqS R ⟨3, [a]⟩ = (R, erR 2) := by simp only [seqS]; rw [if_neg (by decide), if_neg (by decide), if_neg (by decide)]; exact if_pos h0
        rw [e]; exact rseq3e R hR a h0
    · obtain ⟨i, rfl⟩ : ∃ i : Nat, a = i := ⟨a.toNat, by omega⟩
      have hlt : i < R.length := by omega
      rcases hc with rfl | rfl
      · have e : seqS R ⟨2, [(i : Int)]⟩ = (R.eraseIdx i, okR (at0 (rowA R i) 0)) := by simp only [seqS]; rw [if_neg (by decide), if_neg (by decide), if_neg (by decide)]; exact if_neg h0
        rw [e]; exact rseq2 R hR i _ _ (hrow i hlt).1 (hcell i hlt)
      · have e : seqS R ⟨3, [(i : Int)]⟩ = (R, okR (at0 (rowA R i) 0)) := by simp only [seqS]; rw [if_neg (by decide), if_neg (by decide), if_neg (by decide)]; exact if_neg h0
        rw [e]; exact rseq3 R hR i _ _ (hrow i hlt).1 (hcell i hlt)
  · exact rseq7 R hR
theorem rseq_own4 (R : Rws) (o : OpT) (hv : validS 3 R = true) (ho : okOp 3 o = true) (h4 : o.code = 4 ∧ 0 ≤ at0 o.args 0 ∧ at0 o.args 0 < R.length) :
    FnOK Tryz.prog 39 [.agg [.p (ki 3), .ar 0], aggS (opR o)] [(0, vg 1 R.length), (1, bg R)] (.tup [aggS (stR 3 (seqS R o).1), aggS (rsR (seqS R o).2)]) [] := by
  obtain ⟨hR, hT⟩ := valid3 hv
  have hrow : ∀ (i : Nat), i < R.length → R[i]? = some (rowA R i) ∧ (rowA R i).length = 1 := fun i hi => ⟨rowA_lt hi, hT.wide _ (List.mem_of_getElem? (rowA_lt hi))⟩
  have hcell : ∀ (i : Nat), i < R.length → (rowA R i)[0]? = some (at0 (rowA R i) 0) := fun i hi => at0_lt (by rw [(hrow i hi).2]; omega)
  obtain ⟨h41, h42, h43⟩ := h4
  rcases op3 ho with ⟨a, b, hc, ha, hb⟩ | ⟨a, hc, ha⟩ | rfl
  · rcases hc with rfl | rfl | rfl | rfl
    · exact absurd h41 (by simp)
    · simp only [show at0 [a, b] 0 = a from rfl] at h42 h43
      obtain ⟨i, rfl⟩ : ∃ i : Nat, a = i := ⟨a.toNat, by omega⟩
      have hlt : i < R.length := by omega
      have h0 : ¬ ((i : Int) < 0 ∨ (R.length : Int) ≤ i) := by omega
      have e : seqS R ⟨4, [(i : Int), b]⟩ = (R.set i ((rowA R i).set 0 b), okR (at0 (rowA R i) 0)) := by simp only [seqS]; rw [if_neg (by decide), if_neg (by decide), if_neg (by decide)]; exact if_neg h0
      rw [e]
      exact rseq4 R hR i _ _ (hrow i hlt).1 (hcell i hlt) b (hrow i hlt).2
    · exact absurd h41 (by simp)
    · exact absurd h41 (by simp)
  · rcases hc with rfl | rfl
    · exact absurd h41 (by simp)
    · exact absurd h41 (by simp)
  · exact absurd h41 (by simp)
theorem rseq_own6 (R : Rws) (o : OpT) (hv : validS 3 R = true) (ho : okOp 3 o = true) (h6 : o.code = 6 ∧ 0 ≤ at0 o.args 0 ∧ at0 o.args 0 ≤ at0 o.args 1 ∧ at0 o.args 1 ≤ R.length) :
    FnOK Tryz.prog 39 [.agg [.p (ki 3), .ar 0], aggS (opR o)] [(0, .arr 1 (R.map rowR))] (.tup [aggS (stR 3 (seqS R o).1), aggS (rsR (seqS R o).2)]) [] := by
  obtain ⟨hR, hT⟩ := valid3 hv
  have hn : ∀ r ∈ R, 0 < r.length ∧ -1048576 ≤ at0 r 0 ∧ at0 r 0 ≤ 1048576 := fun r hr => by
    have h1 := hT.wide r hr
    exact ⟨by omega, num_bd (hT.nums r hr _ (List.mem_of_getElem? (at0_lt (l := r) (i := 0) (by omega))))⟩
  obtain ⟨h61, h62, h63, h64⟩ := h6
  rcases op3 ho with ⟨a, b, hc, ha, hb⟩ | ⟨a, hc, ha⟩ | rfl
  · rcases hc with rfl | rfl | rfl | rfl
    · exact absurd h61 (by simp)
    · exact absurd h61 (by simp)
    · exact absurd h61 (by simp)
    · simp only [show at0 [a, b] 0 = a from rfl, show at0 [a, b] 1 = b from rfl] at h62 h63 h64
      obtain ⟨i, rfl⟩ : ∃ i : Nat, a = i := ⟨a.toNat, by omega⟩
      obtain ⟨m, rfl⟩ : ∃ m : Nat, b = ((i + m : Nat) : Int) := ⟨(b - i).toNat, by omega⟩
      have h0 : ¬ ((i : Int) < 0 ∨ ((i + m : Nat) : Int) < i ∨ (R.length : Int) < ((i + m : Nat) : Int)) := by omega
      have e : seqS R ⟨6, [(i : Int), ((i + m : Nat) : Int)]⟩ = (revR R i (i + m), okR 0) := by simp only [seqS]; rw [if_neg (by decide), if_pos (by simp)]; exact (if_neg h0).trans (if_pos trivial)
      rw [e]
      exact rseq6 R hR i m (by omega) hn
  · rcases hc with rfl | rfl
    · exact absurd h61 (by simp)
    · exact absurd h61 (by simp)
  · exact absurd h61 (by simp)
theorem rpoints_ok (R : Rws) (o : OpT) (hv : validS 5 R = true) (ho : okOp 5 o = true) :
    FnOK Tryz.prog 41 [aggS (stR 5 R), aggS (opR o)] [] (.tup [aggS (stR 5 (pointsS R o).1), aggS (rsR (pointsS R o).2)]) [] := by
  obtain ⟨hR, hT⟩ := valid5 hv
  have hrow : ∀ (i : Nat), i < R.length → R[i]? = some (rowA R i) ∧ (rowA R i).length = 3 := fun i hi => ⟨rowA_lt hi, hT.wide _ (List.mem_of_getElem? (rowA_lt hi))⟩
  have hcell : ∀ (i j : Nat), i < R.length → j < 3 → (rowA R i)[j]? = some (at0 (rowA R i) j) := fun i j hi hj => at0_lt (by rw [(hrow i hi).2]; exact hj)
  have hn : ∀ r ∈ R, r.length = 3 ∧ ∀ x ∈ r, -1048576 ≤ x ∧ x ≤ 1048576 := fun r hr => ⟨hT.wide r hr, fun x hx => num_bd (hT.nums r hr x hx)⟩
  rcases op5 ho with ⟨a, b, w, rfl, ha, hb, hw⟩ | ⟨a, b, rfl, ha, hb⟩ | ⟨a, b, c, d, hc, ha, hb, hc2, hd⟩ | rfl
  · cases hq : hasC 2 R [a, b, w] with
    | true =>
      have e : pointsS R ⟨1, [a, b, w]⟩ = (R, erR 15) := by simp [pointsS, hq]
      rw [e]; exact rpts1y R hR hT a b w _ rfl hq
    | false =>
      by_cases h5 : R.length = 500
      · have e : pointsS R ⟨1, [a, b, w]⟩ = (R, erR 4) := by simp [pointsS, hq, h5]
        rw [e]; exact rpts1f R hR hT a b w h5 _ rfl hq
      · have e : pointsS R ⟨1, [a, b, w]⟩ = (insR R (posC 2 R [a, b, w]) [a, b, w], okR 0) := by simp [pointsS, hq, h5]
        rw [e]
        exact rpts1 R hR hT a b w (by omega) _ rfl hq
  · cases hq : hasC 2 R [a, b] with
    | true =>
      obtain ⟨r, hr, hlt, _⟩ := hasC_yes hq
      have e : pointsS R ⟨2, [a, b]⟩ = (R.eraseIdx (posC 2 R [a, b]), okR (at0 (rowA R (posC 2 R [a, b])) 2)) := by simp [pointsS, hq]
      rw [e]
      exact rpts2 R hR hT a b _ _ hlt (hcell _ 2 hlt (by omega)) rfl hq
    | false =>
      have e : pointsS R ⟨2, [a, b]⟩ = (R, erR 12) := by simp [pointsS, hq]
      rw [e]; exact rpts2n R hR hT a b _ rfl hq
  · rcases hc with rfl | rfl
    · exact rpts3 R hR a b c d hn
    · exact rpts4 R hR a b c d hn
  · exact rpts5 R hR

theorem step_pure1 (R : Rws) (o : OpT) (z : Rws × RsT) (hR : R.length ≤ 1000000) (hw : ∀ r ∈ R, r.length ≤ 1000000) (hF : FnOK Tryz.prog 37 [aggS (stR 1 R), aggS (opR o)] [] (.tup [aggS (stR 1 z.1), aggS (rsR z.2)]) []) :
    FnOK Tryz.prog 13 [aggS (stR 1 R), aggS (opR o)] [] (.tup [aggS (stR 1 z.1), aggS (rsR z.2)]) [] := by
  have hCp := copyA_ok 1 R hR hw
  refine fn_ok T Tryz.func13 (by kernel_rfl) rfl rfl rfl rfl fun C hC => ?_
  repeat' first
    | refine g_go T hC true 400 rfl rfl ?_
    | (exfalso; simp at h; done)
    | refine g_cond rfl (fun h => ?_) (fun h => ?_)
    | refine g_end T hC (by kernel_rfl) ?_
    | refine g_splitD (fun h => ?_) (fun h => ?_)
    | refine g_splitG rfl rfl rfl (fun h => ?_) (fun h => ?_)
    | refine g_splitP rfl rfl (fun h => ?_) (fun h => ?_)
    | refine g_callR hC (hCp) (nm [101]) rfl rfl (LeSs.refl _) rfl rfl rfl rfl rfl rfl rfl rfl ?_
    | (refine g_freeze rfl (id := 101) (e := 1) (rows := R.map rowR) rfl [(12, aggS (stR 1 R))] ⟨⟨_, rfl, FrS.agg (FrVs.cons (FrV.refl _) (FrVs.cons FrV.ar FrVs.nil))⟩, trivial⟩ [(1002, [.p (ki 1), .p (rowsP R)])] ⟨⟨_, rfl, by decide, FrVs.cons (FrV.refl _) (FrVs.cons FrV.ar FrVs.nil)⟩, trivial⟩ ?_; refine g_call hC hF rfl rfl (LeSs.refl _) rfl rfl rfl ?_)
  all_goals exact g_fin ⟨.inl rfl, id, _, rfl, .refl _, trivial, rfl, rfl⟩

theorem step_pure2 (R : Rws) (o : OpT) (z : Rws × RsT) (hR : R.length ≤ 1000000) (hw : ∀ r ∈ R, r.length ≤ 1000000) (hF : FnOK Tryz.prog 38 [aggS (stR 2 R), aggS (opR o)] [] (.tup [aggS (stR 2 z.1), aggS (rsR z.2)]) []) :
    FnOK Tryz.prog 13 [aggS (stR 2 R), aggS (opR o)] [] (.tup [aggS (stR 2 z.1), aggS (rsR z.2)]) [] := by
  have hCp := copyA_ok 2 R hR hw
  refine fn_ok T Tryz.func13 (by kernel_rfl) rfl rfl rfl rfl fun C hC => ?_
  repeat' first
    | refine g_go T hC true 400 rfl rfl ?_
    | (exfalso; simp at h; done)
    | refine g_cond rfl (fun h => ?_) (fun h => ?_)
    | refine g_end T hC (by kernel_rfl) ?_
    | refine g_splitD (fun h => ?_) (fun h => ?_)
    | refine g_splitG rfl rfl rfl (fun h => ?_) (fun h => ?_)
    | refine g_splitP rfl rfl (fun h => ?_) (fun h => ?_)
    | refine g_callR hC (hCp) (nm [101]) rfl rfl (LeSs.refl _) rfl rfl rfl rfl rfl rfl rfl rfl ?_
    | (refine g_freeze rfl (id := 101) (e := 1) (rows := R.map rowR) rfl [(19, aggS (stR 2 R))] ⟨⟨_, rfl, FrS.agg (FrVs.cons (FrV.refl _) (FrVs.cons FrV.ar FrVs.nil))⟩, trivial⟩ [(1002, [.p (ki 2), .p (rowsP R)])] ⟨⟨_, rfl, by decide, FrVs.cons (FrV.refl _) (FrVs.cons FrV.ar FrVs.nil)⟩, trivial⟩ ?_; refine g_call hC hF rfl rfl (LeSs.refl _) rfl rfl rfl ?_)
  all_goals exact g_fin ⟨.inl rfl, id, _, rfl, .refl _, trivial, rfl, rfl⟩

theorem step_pure3 (R : Rws) (o : OpT) (z : Rws × RsT) (hR : R.length ≤ 1000000) (hw : ∀ r ∈ R, r.length ≤ 1000000) (hF : FnOK Tryz.prog 39 [aggS (stR 3 R), aggS (opR o)] [] (.tup [aggS (stR 3 z.1), aggS (rsR z.2)]) []) :
    FnOK Tryz.prog 13 [aggS (stR 3 R), aggS (opR o)] [] (.tup [aggS (stR 3 z.1), aggS (rsR z.2)]) [] := by
  have hCp := copyA_ok 3 R hR hw
  refine fn_ok T Tryz.func13 (by kernel_rfl) rfl rfl rfl rfl fun C hC => ?_
  repeat' first
    | refine g_go T hC true 400 rfl rfl ?_
    | (exfalso; simp at h; done)
    | refine g_cond rfl (fun h => ?_) (fun h => ?_)
    | refine g_end T hC (by kernel_rfl) ?_
    | refine g_splitD (fun h => ?_) (fun h => ?_)
    | refine g_splitG rfl rfl rfl (fun h => ?_) (fun h => ?_)
    | refine g_splitP rfl rfl (fun h => ?_) (fun h => ?_)
    | refine g_callR hC (hCp) (nm [101]) rfl rfl (LeSs.refl _) rfl rfl rfl rfl rfl rfl rfl rfl ?_
    | (refine g_freeze rfl (id := 101) (e := 1) (rows := R.map rowR) rfl [(26, aggS (stR 3 R))] ⟨⟨_, rfl, FrS.agg (FrVs.cons (FrV.refl _) (FrVs.cons FrV.ar FrVs.nil))⟩, trivial⟩ [(1002, [.p (ki 3), .p (rowsP R)])] ⟨⟨_, rfl, by decide, FrVs.cons (FrV.refl _) (FrVs.cons FrV.ar FrVs.nil)⟩, trivial⟩ ?_; refine g_call hC hF rfl rfl (LeSs.refl _) rfl rfl rfl ?_)
  all_goals exact g_fin ⟨.inl rfl, id, _, rfl, .refl _, trivial, rfl, rfl⟩

theorem step_pure4 (R : Rws) (o : OpT) (z : Rws × RsT) (hR : R.length ≤ 1000000) (hw : ∀ r ∈ R, r.length ≤ 1000000) (hF : FnOK Tryz.prog 40 [aggS (stR 4 R), aggS (opR o)] [] (.tup [aggS (stR 4 z.1), aggS (rsR z.2)]) []) :
    FnOK Tryz.prog 13 [aggS (stR 4 R), aggS (opR o)] [] (.tup [aggS (stR 4 z.1), aggS (rsR z.2)]) [] := by
  have hCp := copyA_ok 4 R hR hw
  refine fn_ok T Tryz.func13 (by kernel_rfl) rfl rfl rfl rfl fun C hC => ?_
  repeat' first
    | refine g_go T hC true 400 rfl rfl ?_
    | (exfalso; simp at h; done)
    | refine g_cond rfl (fun h => ?_) (fun h => ?_)
    | refine g_end T hC (by kernel_rfl) ?_
    | refine g_splitD (fun h => ?_) (fun h => ?_)
    | refine g_splitG rfl rfl rfl (fun h => ?_) (fun h => ?_)
    | refine g_splitP rfl rfl (fun h => ?_) (fun h => ?_)
    | refine g_callR hC (hCp) (nm [101]) rfl rfl (LeSs.refl _) rfl rfl rfl rfl rfl rfl rfl rfl ?_
    | (refine g_freeze rfl (id := 101) (e := 1) (rows := R.map rowR) rfl [(33, aggS (stR 4 R))] ⟨⟨_, rfl, FrS.agg (FrVs.cons (FrV.refl _) (FrVs.cons FrV.ar FrVs.nil))⟩, trivial⟩ [(1002, [.p (ki 4), .p (rowsP R)])] ⟨⟨_, rfl, by decide, FrVs.cons (FrV.refl _) (FrVs.cons FrV.ar FrVs.nil)⟩, trivial⟩ ?_; refine g_call hC hF rfl rfl (LeSs.refl _) rfl rfl rfl ?_)
  all_goals exact g_fin ⟨.inl rfl, id, _, rfl, .refl _, trivial, rfl, rfl⟩

theorem step_pure5 (R : Rws) (o : OpT) (z : Rws × RsT) (hR : R.length ≤ 1000000) (hw : ∀ r ∈ R, r.length ≤ 1000000) (hF : FnOK Tryz.prog 41 [aggS (stR 5 R), aggS (opR o)] [] (.tup [aggS (stR 5 z.1), aggS (rsR z.2)]) []) :
    FnOK Tryz.prog 13 [aggS (stR 5 R), aggS (opR o)] [] (.tup [aggS (stR 5 z.1), aggS (rsR z.2)]) [] := by
  have hCp := copyA_ok 5 R hR hw
  refine fn_ok T Tryz.func13 (by kernel_rfl) rfl rfl rfl rfl fun C hC => ?_
  repeat' first
    | refine g_go T hC true 400 rfl rfl ?_
    | (exfalso; simp at h; done)
    | refine g_cond rfl (fun h => ?_) (fun h => ?_)
    | refine g_end T hC (by kernel_rfl) ?_
    | refine g_splitD (fun h => ?_) (fun h => ?_)
    | refine g_splitG rfl rfl rfl (fun h => ?_) (fun h => ?_)
    | refine g_splitP rfl rfl (fun h => ?_) (fun h => ?_)
    | refine g_callR hC (hCp) (nm [101]) rfl rfl (LeSs.refl _) rfl rfl rfl rfl rfl rfl rfl rfl ?_
    | (refine g_freeze rfl (id := 101) (e := 1) (rows := R.map rowR) rfl [(40, aggS (stR 5 R))] ⟨⟨_, rfl, FrS.agg (FrVs.cons (FrV.refl _) (FrVs.cons FrV.ar FrVs.nil))⟩, trivial⟩ [(1002, [.p (ki 5), .p (rowsP R)])] ⟨⟨_, rfl, by decide, FrVs.cons (FrV.refl _) (FrVs.cons FrV.ar FrVs.nil)⟩, trivial⟩ ?_; refine g_call hC hF rfl rfl (LeSs.refl _) rfl rfl rfl ?_)
  all_goals exact g_fin ⟨.inl rfl, id, _, rfl, .refl _, trivial, rfl, rfl⟩

theorem step_pure6 (R : Rws) (o : OpT) (z : Rws × RsT) (hR : R.length ≤ 1000000) (hw : ∀ r ∈ R, r.length ≤ 1000000) (hF : FnOK Tryz.prog 42 [aggS (stR 6 R), aggS (opR o)] [] (.tup [aggS (stR 6 z.1), aggS (rsR z.2)]) []) :
    FnOK Tryz.prog 13 [aggS (stR 6 R), aggS (opR o)] [] (.tup [aggS (stR 6 z.1), aggS (rsR z.2)]) [] := by
  have hCp := copyA_ok 6 R hR hw
  refine fn_ok T Tryz.func13 (by kernel_rfl) rfl rfl rfl rfl fun C hC => ?_
  repeat' first
    | refine g_go T hC true 400 rfl rfl ?_
    | (exfalso; simp at h; done)
    | refine g_cond rfl (fun h => ?_) (fun h => ?_)
    | refine g_end T hC (by kernel_rfl) ?_
    | refine g_splitD (fun h => ?_) (fun h => ?_)
    | refine g_splitG rfl rfl rfl (fun h => ?_) (fun h => ?_)
    | refine g_splitP rfl rfl (fun h => ?_) (fun h => ?_)
    | refine g_callR hC (hCp) (nm [101]) rfl rfl (LeSs.refl _) rfl rfl rfl rfl rfl rfl rfl rfl ?_
    | (refine g_freeze rfl (id := 101) (e := 1) (rows := R.map rowR) rfl [(45, aggS (stR 6 R))] ⟨⟨_, rfl, FrS.agg (FrVs.cons (FrV.refl _) (FrVs.cons FrV.ar FrVs.nil))⟩, trivial⟩ [(1002, [.p (ki 6), .p (rowsP R)])] ⟨⟨_, rfl, by decide, FrVs.cons (FrV.refl _) (FrVs.cons FrV.ar FrVs.nil)⟩, trivial⟩ ?_; refine g_call hC hF rfl rfl (LeSs.refl _) rfl rfl rfl ?_)
  all_goals exact g_fin ⟨.inl rfl, id, _, rfl, .refl _, trivial, rfl, rfl⟩

theorem step_own1g (R : Rws) (o : OpT) (z : Rws × RsT) (hR : R.length ≤ 1000000) (hw : ∀ r ∈ R, r.length ≤ 1000000) (hF : FnOK Tryz.prog 37 [.agg [.p (ki 1), .ar 0], aggS (opR o)] [(0, vg 1 R.length), (1, bg R)] (.tup [aggS (stR 1 z.1), aggS (rsR z.2)]) []) :
    FnOK Tryz.prog 13 [aggS (stR 1 R), aggS (opR o)] [] (.tup [aggS (stR 1 z.1), aggS (rsR z.2)]) [] := by
  have hCp := copyG_ok 1 R hR hw
  refine fn_ok T Tryz.func13 (by kernel_rfl) rfl rfl rfl rfl fun C hC => ?_
  repeat' first
    | refine g_go T hC true 400 rfl rfl ?_
    | (exfalso; simp at h; done)
    | refine g_cond rfl (fun h => ?_) (fun h => ?_)
    | refine g_end T hC (by kernel_rfl) ?_
    | refine g_splitD (fun h => ?_) (fun h => ?_)
    | refine g_splitG rfl rfl rfl (fun h => ?_) (fun h => ?_)
    | refine g_splitP rfl rfl (fun h => ?_) (fun h => ?_)
    | refine g_callR hC (hCp) (nm [101, 102]) rfl rfl (LeSs.refl _) rfl rfl rfl rfl rfl rfl rfl rfl ?_
    | refine g_callR hC (hF) (nm [101, 102]) rfl rfl (LeSs.refl _) rfl rfl rfl rfl rfl rfl rfl rfl ?_
  all_goals exact g_fin ⟨.inl rfl, id, _, rfl, .refl _, trivial, rfl, rfl⟩

theorem step_own3g (R : Rws) (o : OpT) (z : Rws × RsT) (hR : R.length ≤ 1000000) (hw : ∀ r ∈ R, r.length ≤ 1000000) (hF : FnOK Tryz.prog 39 [.agg [.p (ki 3), .ar 0], aggS (opR o)] [(0, vg 1 R.length), (1, bg R)] (.tup [aggS (stR 3 z.1), aggS (rsR z.2)]) []) :
    FnOK Tryz.prog 13 [aggS (stR 3 R), aggS (opR o)] [] (.tup [aggS (stR 3 z.1), aggS (rsR z.2)]) [] := by
  have hCp := copyG_ok 3 R hR hw
  refine fn_ok T Tryz.func13 (by kernel_rfl) rfl rfl rfl rfl fun C hC => ?_
  repeat' first
    | refine g_go T hC true 400 rfl rfl ?_
    | (exfalso; simp at h; done)
    | refine g_cond rfl (fun h => ?_) (fun h => ?_)
    | refine g_end T hC (by kernel_rfl) ?_
    | refine g_splitD (fun h => ?_) (fun h => ?_)
    | refine g_splitG rfl rfl rfl (fun h => ?_) (fun h => ?_)
    | refine g_splitP rfl rfl (fun h => ?_) (fun h => ?_)
    | refine g_callR hC (hCp) (nm [101, 102]) rfl rfl (LeSs.refl _) rfl rfl rfl rfl rfl rfl rfl rfl ?_
    | refine g_callR hC (hF) (nm [101, 102]) rfl rfl (LeSs.refl _) rfl rfl rfl rfl rfl rfl rfl rfl ?_
  all_goals exact g_fin ⟨.inl rfl, id, _, rfl, .refl _, trivial, rfl, rfl⟩

theorem step_own3a (R : Rws) (o : OpT) (z : Rws × RsT) (hR : R.length ≤ 1000000) (hw : ∀ r ∈ R, r.length ≤ 1000000) (hF : FnOK Tryz.prog 39 [.agg [.p (ki 3), .ar 0], aggS (opR o)] [(0, .arr 1 (R.map rowR))] (.tup [aggS (stR 3 z.1), aggS (rsR z.2)]) []) :
    FnOK Tryz.prog 13 [aggS (stR 3 R), aggS (opR o)] [] (.tup [aggS (stR 3 z.1), aggS (rsR z.2)]) [] := by
  have hCp := copyA_ok 3 R hR hw
  refine fn_ok T Tryz.func13 (by kernel_rfl) rfl rfl rfl rfl fun C hC => ?_
  repeat' first
    | refine g_go T hC true 400 rfl rfl ?_
    | (exfalso; simp at h; done)
    | refine g_cond rfl (fun h => ?_) (fun h => ?_)
    | refine g_end T hC (by kernel_rfl) ?_
    | refine g_splitD (fun h => ?_) (fun h => ?_)
    | refine g_splitG rfl rfl rfl (fun h => ?_) (fun h => ?_)
    | refine g_splitP rfl rfl (fun h => ?_) (fun h => ?_)
    | refine g_callR hC (hCp) (nm [101]) rfl rfl (LeSs.refl _) rfl rfl rfl rfl rfl rfl rfl rfl ?_
    | refine g_callR hC (hF) (nm [101]) rfl rfl (LeSs.refl _) rfl rfl rfl rfl rfl rfl rfl rfl ?_
  all_goals exact g_fin ⟨.inl rfl, id, _, rfl, .refl _, trivial, rfl, rfl⟩

theorem step_own4a (R : Rws) (o : OpT) (z : Rws × RsT) (hR : R.length ≤ 1000000) (hw : ∀ r ∈ R, r.length ≤ 1000000) (hF : FnOK Tryz.prog 40 [.agg [.p (ki 4), .ar 0], aggS (opR o)] [(0, .arr 1 (R.map rowR))] (.tup [aggS (stR 4 z.1), aggS (rsR z.2)]) []) :
    FnOK Tryz.prog 13 [aggS (stR 4 R), aggS (opR o)] [] (.tup [aggS (stR 4 z.1), aggS (rsR z.2)]) [] := by
  have hCp := copyA_ok 4 R hR hw
  refine fn_ok T Tryz.func13 (by kernel_rfl) rfl rfl rfl rfl fun C hC => ?_
  repeat' first
    | refine g_go T hC true 400 rfl rfl ?_
    | (exfalso; simp at h; done)
    | refine g_cond rfl (fun h => ?_) (fun h => ?_)
    | refine g_end T hC (by kernel_rfl) ?_
    | refine g_splitD (fun h => ?_) (fun h => ?_)
    | refine g_splitG rfl rfl rfl (fun h => ?_) (fun h => ?_)
    | refine g_splitP rfl rfl (fun h => ?_) (fun h => ?_)
    | refine g_callR hC (hCp) (nm [101]) rfl rfl (LeSs.refl _) rfl rfl rfl rfl rfl rfl rfl rfl ?_
    | refine g_callR hC (hF) (nm [101]) rfl rfl (LeSs.refl _) rfl rfl rfl rfl rfl rfl rfl rfl ?_
  all_goals exact g_fin ⟨.inl rfl, id, _, rfl, .refl _, trivial, rfl, rfl⟩

theorem rStep_ok (k : Int) (R : Rws) (o : OpT) (hv : validS k R = true) (ho : okOp k o = true) : FnOK Tryz.prog 13 [aggS (stR k R), aggS (opR o)] [] (.tup [aggS (stR k (stepS k R o).1), aggS (rsR (stepS k R o).2)]) [] := by
  obtain ⟨hR, hw⟩ := valid_lens hv
  have hR' : R.length ≤ 1000000 := by omega
  have hw' : ∀ r ∈ R, r.length ≤ 1000000 := fun r hr => by have := hw r hr; omega
  obtain ⟨_, hk⟩ := valid_kind hv
  rcases hk with rfl | rfl | rfl | rfl | rfl | rfl
  · by_cases h : o.code = 1 ∧ hasC 1 R o.args = true
    · exact step_own1g R o _ hR' hw' (rdict_own R o hv ho h.1 h.2)
    · exact step_pure1 R o _ hR' hw' (rdict_pure R o hv ho h)
  · exact step_pure2 R o _ hR' hw' (rheap_ok R o hv ho)
  · by_cases h4 : o.code = 4 ∧ 0 ≤ at0 o.args 0 ∧ at0 o.args 0 < R.length
    · exact step_own3g R o _ hR' hw' (rseq_own4 R o hv ho h4)
    · by_cases h6 : o.code = 6 ∧ 0 ≤ at0 o.args 0 ∧ at0 o.args 0 ≤ at0 o.args 1 ∧ at0 o.args 1 ≤ R.length
      · exact step_own3a R o _ hR' hw' (rseq_own6 R o hv ho h6)
      · exact step_pure3 R o _ hR' hw' (rseq_pure R o hv ho h4 h6)
  · by_cases h : (o.code = 1 ∧ R.flatten.length < 500) ∨ (o.code = 2 ∧ 0 ≤ clsI (at0 o.args 0) R 0 ∧ 0 ≤ clsI (at0 o.args 1) R 0 ∧ ¬ clsI (at0 o.args 0) R 0 = clsI (at0 o.args 1) R 0)
    · exact step_own4a R o _ hR' hw' (rsets_own R o hv ho h)
    · exact step_pure4 R o _ hR' hw' (rsets_pure R o hv ho (fun e => h (.inl e)) fun e => h (.inr e))
  · exact step_pure5 R o _ hR' hw' (rpoints_ok R o hv ho)
  · exact step_pure6 R o _ hR' hw' (rtext_ok R o hv ho)
end Hw.Mz
