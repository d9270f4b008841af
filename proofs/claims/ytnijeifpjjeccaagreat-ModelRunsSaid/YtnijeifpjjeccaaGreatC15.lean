/- The engine and the contracts. -/
import Derived.Test.YtnijeifpjjeccaaGreatC14
import Derived.Test.YtnijeifpjjeccaaGreatC3
set_option linter.unusedVariables false
set_option linter.unusedSimpArgs false
namespace Hw.Mz
open Go Go.Proofs Go.Shelf Hw.M

/-! models: the reference's rows, copies, what a step yields -/
theorem row_ok (l : List Int) (hl : l.length ≤ 1000000) : FnOK Tryz.prog 64 [pS (intsP l)] [] (.one (.ar 0)) [(0, .arr 1 (l.map intR))] := by
  have hlm : (l.map intR).length = l.length := List.length_map _
  refine fn_ok T Tryz.func64 (by kernel_rfl) rfl rfl rfl rfl fun C hC => ?_
  repeat' first
    | refine g_go T hC true 400 rfl rfl ?_
    | refine g_cond rfl (fun h => ?_) (fun h => ?_)
    | refine g_end T hC (by kernel_rfl) ?_
    | refine g_splitD (fun h => ?_) (fun h => ?_)
    | refine g_splitG rfl rfl rfl (fun h => ?_) (fun h => ?_)
    | refine g_splitP rfl rfl (fun h => ?_) (fun h => ?_)
    | (refine g_litO T hC rfl rfl rfl rfl rfl ?_)
    | refine g_append T 102 hC (rows := []) (rows2 := l.map intR) (rows3 := l.map intR) (bytes := 8) rfl rfl rfl rfl (SrcS.sl (T.es_ok _ _ rfl)) rfl rfl rfl rfl (by kernel_rfl) (by simp only [List.length_nil, hlm]; omega) (by simp only [List.length_nil, hlm]; omega) rfl rfl rfl ?_
  exact g_fin ⟨.inl rfl, nm [102], _, rfl, .refl _, ⟨rfl, trivial⟩, rfl, rfl⟩
theorem yield_ok (k : Int) (R : Rws) (n : Int) : FnOK Tryz.prog 65 [aggS (stR k R), I n] [] (.tup [aggS (stR k R), aggS (rsR (okR n))]) [] := by
  refine fn_ok T Tryz.func65 (by kernel_rfl) rfl rfl rfl rfl fun C hC => ?_
  repeat' first
    | refine g_go T hC true 400 rfl rfl ?_
    | refine g_cond rfl (fun h => ?_) (fun h => ?_)
    | refine g_end T hC (by kernel_rfl) ?_
    | refine g_splitD (fun h => ?_) (fun h => ?_)
    | refine g_splitG rfl rfl rfl (fun h => ?_) (fun h => ?_)
    | refine g_splitP rfl rfl (fun h => ?_) (fun h => ?_)
  exact g_fin ⟨.inl rfl, id, _, rfl, .refl _, trivial, rfl, rfl⟩
theorem fail_ok (k : Int) (R : Rws) (e : Int) : FnOK Tryz.prog 66 [aggS (stR k R), I e] [] (.tup [aggS (stR k R), aggS (rsR (erR e))]) [] := by
  refine fn_ok T Tryz.func66 (by kernel_rfl) rfl rfl rfl rfl fun C hC => ?_
  repeat' first
    | refine g_go T hC true 400 rfl rfl ?_
    | refine g_cond rfl (fun h => ?_) (fun h => ?_)
    | refine g_end T hC (by kernel_rfl) ?_
    | refine g_splitD (fun h => ?_) (fun h => ?_)
    | refine g_splitG rfl rfl rfl (fun h => ?_) (fun h => ?_)
    | refine g_splitP rfl rfl (fun h => ?_) (fun h => ?_)
  exact g_fin ⟨.inl rfl, id, _, rfl, .refl _, trivial, rfl, rfl⟩
theorem put_ok (R : Rws) (hR : R.length ≤ 1000000) (i : Nat) (hi : i ≤ R.length) (x : Rw) : FnOK Tryz.prog 67 [pS (rowsP R), I i, pS (intsP x)] [] (pS (rowsP (insR R i x))) [] := by
  have hlm : (R.map rowR).length = R.length := List.length_map _
  have h1 : ((R.take i).map rowR).length = i := by rw [List.length_map, List.length_take]; omega
  have h2 : ((R.drop i).map rowR).length = R.length - i := by rw [List.length_map, List.length_drop]
  have h3 : ((R.take i ++ [x]).map rowR).length = i + 1 := by simp; omega
  refine fn_ok T Tryz.func67 (by kernel_rfl) rfl rfl rfl rfl fun C hC => ?_
  repeat' first
    | refine g_go T hC true 400 rfl rfl ?_
    | refine g_cond rfl (fun h => ?_) (fun h => ?_)
    | refine g_end T hC (by kernel_rfl) ?_
    | refine g_splitD (fun h => ?_) (fun h => ?_)
    | refine g_splitG rfl rfl rfl (fun h => ?_) (fun h => ?_)
    | refine g_splitP rfl rfl (fun h => ?_) (fun h => ?_)
    | (refine g_litO T hC rfl rfl rfl rfl rfl ?_)
    | refine g_partH T hC ((R.take i).map rowR) rfl rfl rfl (Int.natCast_nonneg _) (by rw [hlm]; omega) (by rw [Int.toNat_natCast, List.map_take]) rfl rfl ?_
    | refine g_append T 102 hC (id := 1008) (rows := []) (rows2 := (R.take i).map rowR) (rows3 := (R.take i).map rowR) (bytes := 24) rfl rfl rfl rfl (SrcS.sl (T.es_ok _ _ rfl)) rfl rfl rfl rfl (by kernel_rfl) (by simp only [List.length_nil, h1]; omega) (by simp only [List.length_nil, h1]; omega) rfl rfl rfl ?_
    | refine g_lit T hC rfl rfl rfl rfl rfl rfl rfl rfl rfl ?_
    | refine g_append T 103 hC (id := 102) (rows := (R.take i).map rowR) (rows2 := [rowR x]) (rows3 := (R.take i ++ [x]).map rowR) (bytes := 24) rfl rfl rfl rfl (SrcS.sl (T.es_ok _ _ rfl)) (by rw [List.map_append]; rfl) rfl rfl rfl (by kernel_rfl) (by simp only [List.length_cons, List.length_nil, h1]; omega) (by simp only [List.length_cons, List.length_nil, h1]; omega) rfl rfl rfl ?_
    | refine g_partL T hC ((R.drop i).map rowR) rfl rfl rfl (Int.natCast_nonneg _) (by rw [hlm]; omega) (by rw [Int.toNat_natCast, List.map_drop]) rfl rfl ?_
    | refine g_append T 104 hC (id := 103) (rows := (R.take i ++ [x]).map rowR) (rows2 := (R.drop i).map rowR) (rows3 := (insR R i x).map rowR) (bytes := 24) rfl rfl rfl rfl (SrcS.sl (T.es_ok _ _ rfl)) (by rw [← List.map_append, List.append_assoc]; rfl) rfl rfl rfl (by kernel_rfl) (by rw [h2, h3]; omega) (by rw [h2, h3]; omega) rfl rfl rfl ?_
  refine g_freeze rfl (id := 104) (e := 1) (rows := (insR R i x).map rowR) rfl [(6, pS (rowsP (insR R i x)))] ⟨⟨_, rfl, FrS.ar⟩, trivial⟩ [] trivial ?_
  exact g_fin ⟨.inl rfl, id, _, rfl, .refl _, trivial, rfl, rfl⟩
theorem cut_ok (R : Rws) (hR : R.length ≤ 1000000) (i : Nat) (hi : i < R.length) : FnOK Tryz.prog 68 [pS (rowsP R), I i] [] (pS (rowsP (R.eraseIdx i))) [] := by
  have hlm : (R.map rowR).length = R.length := List.length_map _
  have h1 : ((R.take i).map rowR).length = i := by rw [List.length_map, List.length_take]; omega
  have h2 : ((R.drop (i + 1)).map rowR).length = R.length - (i + 1) := by rw [List.length_map, List.length_drop]
  have hw : IntKind.i64.wrap ((i : Int) + 1) = ((i + 1 : Nat) : Int) := wrapS (by omega)
  refine fn_ok T Tryz.func68 (by kernel_rfl) rfl rfl rfl rfl fun C hC => ?_
  repeat' first
    | refine g_go T hC true 400 rfl rfl ?_
    | refine g_cond rfl (fun h => ?_) (fun h => ?_)
    | refine g_end T hC (by kernel_rfl) ?_
    | refine g_splitD (fun h => ?_) (fun h => ?_)
    | refine g_splitG rfl rfl rfl (fun h => ?_) (fun h => ?_)
    | refine g_splitP rfl rfl (fun h => ?_) (fun h => ?_)
    | (refine g_litO T hC rfl rfl rfl rfl rfl ?_)
    | refine g_partH T hC ((R.take i).map rowR) rfl rfl rfl (Int.natCast_nonneg _) (by rw [hlm]; omega) (by rw [Int.toNat_natCast, List.map_take]) rfl rfl ?_
    | refine g_append T 102 hC (id := 1005) (rows := []) (rows2 := (R.take i).map rowR) (rows3 := (R.take i).map rowR) (bytes := 24) rfl rfl rfl rfl (SrcS.sl (T.es_ok _ _ rfl)) rfl rfl rfl rfl (by kernel_rfl) (by simp only [List.length_nil, h1]; omega) (by simp only [List.length_nil, h1]; omega) rfl rfl rfl ?_
    | (rw [hw]; refine g_partL T hC ((R.drop (i + 1)).map rowR) rfl rfl rfl (Int.natCast_nonneg _) (by rw [hlm]; omega) (by rw [Int.toNat_natCast, List.map_drop]) rfl rfl ?_)
    | refine g_append T 104 hC (id := 102) (rows := (R.take i).map rowR) (rows2 := (R.drop (i + 1)).map rowR) (rows3 := (R.eraseIdx i).map rowR) (bytes := 24) rfl rfl rfl rfl (SrcS.sl (T.es_ok _ _ rfl)) (by rw [← List.map_append, List.eraseIdx_eq_take_drop_succ]) rfl rfl rfl (by kernel_rfl) (by rw [h1, h2]; omega) (by rw [h1, h2]; omega) rfl rfl rfl ?_
  refine g_freeze rfl (id := 104) (e := 1) (rows := (R.eraseIdx i).map rowR) rfl [(4, pS (rowsP (R.eraseIdx i)))] ⟨⟨_, rfl, FrS.ar⟩, trivial⟩ [] trivial ?_
  exact g_fin ⟨.inl rfl, id, _, rfl, .refl _, trivial, rfl, rfl⟩
end Hw.Mz
namespace Hw.Mz
open Go Go.Proofs Go.Shelf Hw.M

/-! models: the reference's copies -/
theorem rowP_ok (l : List Int) (hl : l.length ≤ 1000000) : FnOK Tryz.prog 64 [pS (intsP l)] [] (pS (intsP l)) [] := by
  have hlm : (l.map intR).length = l.length := List.length_map _
  refine fn_ok T Tryz.func64 (by kernel_rfl) rfl rfl rfl rfl fun C hC => ?_
  repeat' first
    | refine g_go T hC true 400 rfl rfl ?_
    | refine g_cond rfl (fun h => ?_) (fun h => ?_)
    | refine g_end T hC (by kernel_rfl) ?_
    | refine g_splitD (fun h => ?_) (fun h => ?_)
    | refine g_splitG rfl rfl rfl (fun h => ?_) (fun h => ?_)
    | refine g_splitP rfl rfl (fun h => ?_) (fun h => ?_)
    | (refine g_litO T hC rfl rfl rfl rfl rfl ?_)
    | refine g_append T 102 hC (rows := []) (rows2 := l.map intR) (rows3 := l.map intR) (bytes := 8) rfl rfl rfl rfl (SrcS.sl (T.es_ok _ _ rfl)) rfl rfl rfl rfl (by kernel_rfl) (by simp only [List.length_nil, hlm]; omega) (by simp only [List.length_nil, hlm]; omega) rfl rfl rfl ?_
  refine g_freeze rfl (id := 102) (e := 1) (rows := l.map intR) rfl [(2, pS (intsP l))] ⟨⟨_, rfl, FrS.ar⟩, trivial⟩ [] trivial ?_
  exact g_fin ⟨.inl rfl, id, _, rfl, .refl _, trivial, rfl, rfl⟩
theorem copyA_ok (k : Int) (R : Rws) (hR : R.length ≤ 1000000) (hw : ∀ r ∈ R, r.length ≤ 1000000) : FnOK Tryz.prog 36 [aggS (stR k R)] [] (.agg [.p (ki k), .ar 0]) [(0, .arr 1 (R.map rowR))] := by
  have hlm : (R.map rowR).length = R.length := List.length_map _
  refine fn_ok T Tryz.func36 (by kernel_rfl) rfl rfl rfl rfl fun C hC => ?_
  repeat' first
    | refine g_go T hC true 400 rfl rfl ?_
    | refine g_cond rfl (fun h => ?_) (fun h => ?_)
    | refine g_end T hC (by kernel_rfl) ?_
    | refine g_splitD (fun h => ?_) (fun h => ?_)
    | refine g_splitG rfl rfl rfl (fun h => ?_) (fun h => ?_)
    | refine g_splitP rfl rfl (fun h => ?_) (fun h => ?_)
  refine g_adopt hC rfl 101 1 rfl [] trivial [(1003, [.p (ki k), .ar 101])] ⟨⟨_, rfl, by decide, AdVs.cons (AdV.refl _) (AdVs.cons AdV.nil AdVs.nil)⟩, trivial⟩ ?_
  refine g_loop (fun i : Nat => i ≤ R.length) (fun i => ([(1, .one (.bx 1001 0)), (2, .one (.bx 1002 0)), (3, .one (.bx 1003 0)), (4, I i)], [(101, some (.arr 1 ((R.take i).map rowR))), (1001, some (.box [.p (ki k), .p (rowsP R)])), (1002, some (.box [.p (ki 0), .p (.k (.slice none 0 0))])), (1003, some (.box [.p (ki k), .ar 101]))])) (fun i => R.length - i) hC
    0 (Nat.zero_le _) id ⟨rfl, ⟨rfl, rfl, rfl, rfl, trivial⟩, ⟨rfl, rfl, rfl, rfl, trivial⟩, rfl, fun _ _ => rfl⟩ ?_
  intro i hi
  refine g_run' T hC true 200 rfl ?_
  refine g_cond rfl (fun h => ?_) (fun h => ?_)
  · have hlt : i < R.length := by simpa using h
    clear h
    obtain ⟨r, hx⟩ := exists_at hlt
    have hC1 := rowP_ok r (hw r (List.mem_of_getElem? hx))
    have htl : ((R.take i).map rowR).length = i := by rw [List.length_map, List.length_take]; omega
    repeat' first
      | refine g_go T hC true 400 rfl rfl ?_
      | refine g_cond rfl (fun h => ?_) (fun h => ?_)
      | refine g_end T hC (by kernel_rfl) ?_
      | refine g_splitD (fun h => ?_) (fun h => ?_)
      | refine g_splitG rfl rfl rfl (fun h => ?_) (fun h => ?_)
      | refine g_splitP rfl rfl (fun h => ?_) (fun h => ?_)
      | refine g_idx T hC rfl rfl rfl (Int.natCast_nonneg _) (map_at hx) rfl rfl ?_
      | refine g_call hC (hC1) rfl rfl (LeSs.refl _) rfl rfl rfl ?_
      | refine g_lit T hC rfl rfl rfl rfl rfl rfl rfl rfl rfl ?_
      | refine g_append T 106 hC (id := 101) (rows := (R.take i).map rowR) (rows2 := [rowR r]) (rows3 := (R.take (i + 1)).map rowR) (bytes := 24) rfl rfl rfl rfl (SrcS.sl (T.es_ok _ _ rfl)) (by rw [take_snoc hx, List.map_append]; rfl) rfl rfl rfl (by kernel_rfl) (by rw [htl, List.length_singleton]; omega) (by rw [htl, List.length_singleton]; omega) rfl rfl rfl ?_
    rw [wrapS (by omega)]
    exact g_round (i + 1) (by omega) (mvU 101 106) (by omega) ⟨rfl, ⟨rfl, rfl, rfl, rfl, trivial⟩, ⟨rfl, rfl, rfl, rfl, trivial⟩, rfl, fun i hi => mvU_low (by omega) hi⟩
  · have hge : i = R.length := by
      have : ¬ i < R.length := by simpa using h
      omega
    subst hge
    clear h
    rw [List.take_length]
    repeat' first
      | refine g_go T hC true 400 rfl rfl ?_
      | refine g_cond rfl (fun h => ?_) (fun h => ?_)
      | refine g_end T hC (by kernel_rfl) ?_
      | refine g_splitD (fun h => ?_) (fun h => ?_)
      | refine g_splitG rfl rfl rfl (fun h => ?_) (fun h => ?_)
      | refine g_splitP rfl rfl (fun h => ?_) (fun h => ?_)
      | refine g_outE ?_
    exact g_fin ⟨.inl rfl, nm [101], _, rfl, .refl _, ⟨rfl, trivial⟩, rfl, rfl⟩
theorem rw_takeC (i : Nat) : RwR (TkF 102 104 105 i) (.vw [102, 104] 1 (gr i ++ [[PC.a 1]])) (vg 105 (i + 1)) := by
  refine RwR.vw (by rw [List.length_append, gr_len, gr_len]; rfl) (gr_one _) fun j x' hj => ?_
  have hfl : (gr i).flatten.length = i := by have := flat_one (gr_one i); rw [gr_len, Nat.mul_one] at this; exact this.symm
  rw [gr_succ, List.flatten_append] at hj
  rw [List.flatten_append]
  rcases Nat.lt_or_ge j i with h | h
  · rw [List.getElem?_append_left (by omega)] at hj ⊢
    rw [gr_at h] at hj ⊢
    exact ⟨_, rfl, by rw [← Option.some.inj hj]; exact TkF.nv⟩
  · rw [List.getElem?_append_right (by omega), hfl] at hj ⊢
    cases hji : j - i with
    | zero =>
      try rw [hji] at hj
      have hj : some (PC.n 0 i) = some x' := hj
      exact ⟨PC.a 1, rfl, by rw [← Option.some.inj hj]; exact TkF.ar⟩
    | succ m => (try rw [hji] at hj); simp at hj
theorem copyG_ok (k : Int) (R : Rws) (hR : R.length ≤ 1000000) (hw : ∀ r ∈ R, r.length ≤ 1000000) : FnOK Tryz.prog 36 [aggS (stR k R)] [] (.agg [.p (ki k), .ar 0]) [(0, vg 1 R.length), (1, bg R)] := by
  have hlm : (R.map rowR).length = R.length := List.length_map _
  refine fn_ok T Tryz.func36 (by kernel_rfl) rfl rfl rfl rfl fun C hC => ?_
  repeat' first
    | refine g_go T hC true 400 rfl rfl ?_
    | refine g_cond rfl (fun h => ?_) (fun h => ?_)
    | refine g_end T hC (by kernel_rfl) ?_
    | refine g_splitD (fun h => ?_) (fun h => ?_)
    | refine g_splitG rfl rfl rfl (fun h => ?_) (fun h => ?_)
    | refine g_splitP rfl rfl (fun h => ?_) (fun h => ?_)
  refine g_adopt hC rfl 103 1 rfl [] trivial [(1003, [.p (ki k), .ar 103])] ⟨⟨_, rfl, by decide, AdVs.cons (AdV.refl _) (AdVs.cons AdV.nil AdVs.nil)⟩, trivial⟩ ?_
  refine g_bag hC rfl 102 1 rfl ?_
  refine g_toW rfl 103 [102] (e := 1) (rows := []) (rows' := gr 0) rfl rfl ?_
  refine g_loop (fun i : Nat => i ≤ R.length) (fun i => ([(1, .one (.bx 1001 0)), (2, .one (.bx 1002 0)), (3, .one (.bx 1003 0)), (4, I i)], [(101, some (vg 102 i)), (102, some (bg (R.take i))), (1001, some (.box [.p (ki k), .p (rowsP R)])), (1002, some (.box [.p (ki 0), .p (.k (.slice none 0 0))])), (1003, some (.box [.p (ki k), .ar 101]))])) (fun i => R.length - i) hC
    0 (Nat.zero_le _) (mvU 101 103) ⟨rfl, ⟨rfl, rfl, rfl, rfl, trivial⟩, ⟨rfl, rfl, rfl, rfl, rfl, trivial⟩, rfl, fun i hi => mvU_low (by omega) hi⟩ ?_
  intro i hi
  refine g_run' T hC true 200 rfl ?_
  refine g_cond rfl (fun h => ?_) (fun h => ?_)
  · have hlt : i < R.length := by simpa using h
    clear h
    obtain ⟨r, hx⟩ := exists_at hlt
    have hC1 := row_ok r (hw r (List.mem_of_getElem? hx))
    have hbl : ((R.take i).map fun r => r.map intR).length = i := by rw [List.length_map, List.length_take]; omega
    have htk : R.take i ++ [r] = R.take (i + 1) := by rw [List.take_add_one, hx]; rfl
    have hj := rows_join (e := 1) (ids := [102]) (ids2 := [104]) (ids' := [102, 104]) (rows := gr i) (rows2 := [[PC.a 0]]) (rows2' := [[PC.a 1]]) (gr_one i) (by simp) rfl (fun x hx => by
      rw [gr, grJ_flat] at hx
      obtain ⟨q, _, rfl⟩ := List.mem_map.1 hx
      rfl) (fun j x' h => by
      match j, h with
      | 0, h => exact ⟨PC.a 0, rfl, by rw [← Option.some.inj h]; rfl⟩
      | j + 1, h => simp at h)
    repeat' first
      | refine g_go T hC true 400 rfl rfl ?_
      | refine g_cond rfl (fun h => ?_) (fun h => ?_)
      | refine g_end T hC (by kernel_rfl) ?_
      | refine g_splitD (fun h => ?_) (fun h => ?_)
      | refine g_splitG rfl rfl rfl (fun h => ?_) (fun h => ?_)
      | refine g_splitP rfl rfl (fun h => ?_) (fun h => ?_)
      | refine g_idx T hC rfl rfl rfl (Int.natCast_nonneg _) (map_at hx) rfl rfl ?_
      | refine g_callR hC (hC1) (nm [104]) rfl rfl (LeSs.refl _) rfl rfl rfl rfl rfl rfl rfl rfl ?_
      | (refine g_litW T hC [PC.a 0] [104] rfl rfl rfl rfl rfl rfl rfl rfl rfl rfl rfl rfl ?_)
      | (refine g_appendW T 106 hC (id := 101) (rows := gr i) (rows2 := [[PC.a 0]]) (ids := [102]) (ids2 := [104]) [102, 104] (gr i ++ [[PC.a 1]]) (bytes := 24) rfl rfl rfl rfl (SrcW.vw (T.es_ok _ _ rfl)) rfl hj.1 hj.2.1 hj.2.2.1 hj.2.2.2 rfl rfl rfl (by kernel_rfl) (by rw [gr_len, List.length_singleton]; omega) (by rw [gr_len, List.length_singleton]; omega) rfl rfl rfl ?_)
    refine g_take hC rfl 102 104 105 (e := 1) (L := (R.take i).map fun r => r.map intR) (rs := r.map intR) rfl rfl rfl rfl [] trivial [(106, vg 105 (i + 1))] ⟨⟨_, rfl, rfl, by rw [hbl]; exact rw_takeC i⟩, trivial⟩ ?_
    rw [bg_snoc, htk, wrapS (by omega)]
    exact g_round (i + 1) (by omega) (mv2 101 106 102 105) (by omega) ⟨rfl, ⟨rfl, rfl, rfl, rfl, trivial⟩, ⟨rfl, rfl, rfl, rfl, rfl, trivial⟩, rfl, fun i hi => mv2_low (by omega) (by omega) hi⟩
  · have hge : i = R.length := by
      have : ¬ i < R.length := by simpa using h
      omega
    subst hge
    clear h
    rw [List.take_length]
    repeat' first
      | refine g_go T hC true 400 rfl rfl ?_
      | refine g_cond rfl (fun h => ?_) (fun h => ?_)
      | refine g_end T hC (by kernel_rfl) ?_
      | refine g_splitD (fun h => ?_) (fun h => ?_)
      | refine g_splitG rfl rfl rfl (fun h => ?_) (fun h => ?_)
      | refine g_splitP rfl rfl (fun h => ?_) (fun h => ?_)
      | refine g_outE ?_
    exact g_fin ⟨.inl rfl, nm [101, 102], _, rfl, .refl _, ⟨rfl, rfl, trivial⟩, rfl, rfl⟩
end Hw.Mz
namespace Hw.Mz
open Go Go.Proofs Go.Shelf Hw.M

/-! models: the reference's dictionaries, plain -/
def lessN (R : Rws) (k : Int) (i : Nat) : Nat := ((R.take i).filter fun r => decide (at0 r 0 < k)).length
def thereB (R : Rws) (k : Int) (i : Nat) : Bool := (R.take i).any fun r => decide (at0 r 0 = k)
theorem lessN_le (R : Rws) (k : Int) (i : Nat) : lessN R k i ≤ i := by
  unfold lessN
  have := List.length_filter_le (fun r => decide (at0 r 0 < k)) (R.take i)
  rw [List.length_take] at this; omega
theorem lessN_succ {R : Rws} {k : Int} {i : Nat} {r : Rw} (h : R[i]? = some r) : lessN R k (i + 1) = lessN R k i + (if at0 r 0 < k then 1 else 0) := by
  unfold lessN
  rw [take_snoc h, List.filter_append, List.length_append]
  congr 1
  simp only [List.filter_cons, List.filter_nil, decide_eq_true_eq]
  split <;> rfl
theorem thereB_succ {R : Rws} {k : Int} {i : Nat} {r : Rw} (h : R[i]? = some r) : thereB R k (i + 1) = (thereB R k i || decide (at0 r 0 = k)) := by
  unfold thereB
  rw [take_snoc h, List.any_append]
  simp
theorem lessN_end {R : Rws} (hT : TabOk 2 (ltC 1) R) (k : Int) : lessN R k R.length = posC 1 R [k] := by
  unfold lessN
  rw [List.take_length]
  have hsp := posC_spec hT pos_lt [k]
  have hle := posC_le 1 R [k]
  have key : ∀ r ∈ R, ltC 1 r [k] = decide (at0 r 0 < k) := fun r hr => by
    rw [ltC_one (fun e => by have := hT.wide r hr; rw [e] at this; simp at this) (by simp)]; rfl
  conv => lhs; rw [← List.take_append_drop (posC 1 R [k]) R]
  rw [List.filter_append, List.length_append, List.filter_eq_self.2 fun r hr => by rw [← key r (List.mem_of_mem_take hr)]; exact hsp.1 r hr, List.filter_eq_nil_iff.2 fun r hr => by rw [← key r (List.mem_of_mem_drop hr), hsp.2 r hr]; decide, List.length_take]
  simp; omega
theorem thereB_end {R : Rws} (hT : TabOk 2 (ltC 1) R) (k : Int) : thereB R k R.length = hasC 1 R [k] := by
  unfold thereB
  rw [List.take_length, Bool.eq_iff_iff, List.any_eq_true]
  constructor
  · rintro ⟨r, hr, hk⟩
    obtain ⟨i, hi⟩ := List.mem_iff_getElem?.1 hr
    have hlt := (List.getElem?_eq_some_iff.1 hi).1
    have hkk : keyI R i = k := by unfold keyI; rw [rowA_of hi]; exact of_decide_eq_true hk
    have := (key_rank hT hlt).2
    rw [hkk] at this; exact this
  · intro h
    obtain ⟨h1, h2⟩ := (key_has hT k).1 h
    exact ⟨_, List.mem_of_getElem? (rowA_lt h1), decide_eq_true h2⟩
theorem rdict8 (R : Rws) (hR : R.length ≤ 500) (hT : TabOk 2 (ltC 1) R)  : FnOK Tryz.prog 37 [aggS (stR 1 R), aggS [ki 8, intsP []]] [] (.tup [aggS (stR 1 R), aggS (rsR (okR R.length))]) [] := by
  have hlm : (R.map rowR).length = R.length := List.length_map _
  have hY := yield_ok 1 R R.length
  refine fn_ok T Tryz.func37 (by kernel_rfl) rfl rfl rfl rfl fun C hC => ?_
  repeat' first
    | refine g_go T hC true 400 rfl rfl ?_
    | (exfalso; simp at h; done)
    | refine g_cond rfl (fun h => ?_) (fun h => ?_)
    | refine g_end T hC (by kernel_rfl) ?_
    | refine g_splitD (fun h => ?_) (fun h => ?_)
    | refine g_splitG rfl rfl rfl (fun h => ?_) (fun h => ?_)
    | refine g_splitP rfl rfl (fun h => ?_) (fun h => ?_)
    | (rw [hlm]; refine g_call hC hY rfl rfl (LeSs.refl _) rfl rfl rfl ?_)
  all_goals exact g_fin ⟨.inl rfl, id, _, rfl, .refl _, trivial, rfl, rfl⟩

theorem rdict7n (R : Rws) (hR : R.length ≤ 500) (hT : TabOk 2 (ltC 1) R) (a : Int) (h0 : a < 0 ∨ (R.length : Int) ≤ a) : FnOK Tryz.prog 37 [aggS (stR 1 R), aggS [ki 7, intsP [a]]] [] (.tup [aggS (stR 1 R), aggS (rsR (erR 2))]) [] := by
  have hlm : (R.map rowR).length = R.length := List.length_map _
  have hY := fail_ok 1 R 2
  refine fn_ok T Tryz.func37 (by kernel_rfl) rfl rfl rfl rfl fun C hC => ?_
  repeat' first
    | refine g_go T hC true 400 rfl rfl ?_
    | (exfalso; simp at h; done)
    | refine g_cond rfl (fun h => ?_) (fun h => ?_)
    | refine g_end T hC (by kernel_rfl) ?_
    | refine g_splitD (fun h => ?_) (fun h => ?_)
    | refine g_splitG rfl rfl rfl (fun h => ?_) (fun h => ?_)
    | refine g_splitP rfl rfl (fun h => ?_) (fun h => ?_)
    | refine g_idx T hC (rows := [a].map intR) rfl rfl rfl (by decide) rfl rfl rfl ?_
  rw [hlm]
  refine g_sub 9 rfl (LeS.qb rfl) ?_
  refine g_loop (fun i : Nat => i ≤ R.length) (fun i => ([(2, .one (.bx 1002 0)), (3, .one (.bx 1003 0)), (4, .one (.bx 1004 0)), (5, .one (.bx 1005 0)), (6, I R.length), (7, I a), (8, I (lessN R a i)), (9, .bq (thereB R a i)), (10, I i)], [(1002, some (.box [.p (ki 1), .p (rowsP R)])), (1003, some (.box [.p (ki 7), .p (intsP [a])])), (1004, some (.box [.p (ki 0), .p (.k (.slice none 0 0))])), (1005, some (.box [.p (ki 0), .p (ki 0), .p (.k (.slice none 0 0))]))])) (fun i => R.length - i) hC
    0 (Nat.zero_le _) id ⟨rfl, ⟨rfl, rfl, rfl, rfl, rfl, rfl, rfl, rfl, rfl, trivial⟩, ⟨rfl, rfl, rfl, rfl, trivial⟩, rfl, fun _ _ => rfl⟩ ?_
  intro i hi
  refine g_run' T hC true 200 rfl ?_
  refine g_cond rfl (fun h => ?_) (fun h => ?_)
  · have hlt : i < R.length := by simpa using h
    clear h
    obtain ⟨r, hr⟩ := exists_at hlt
    obtain ⟨x, y, rfl⟩ := len2 (hT.wide r (List.mem_of_getElem? hr))
    have hl1 := lessN_succ (k := a) hr
    have ht1 := thereB_succ (k := a) hr
    have hle := lessN_le R a i
    rw [show at0 [x, y] 0 = x from rfl] at hl1 ht1
    by_cases c1 : x < a
    · rw [if_pos c1] at hl1
      repeat' first
        | refine g_go T hC true 400 rfl rfl ?_
        | (exact absurd c1 (of_decide_eq_false h))
        | refine g_cond rfl (fun h => ?_) (fun h => ?_)
        | refine g_end T hC (by kernel_rfl) ?_
        | refine g_splitD (fun h => ?_) (fun h => ?_)
        | refine g_splitG rfl rfl rfl (fun h => ?_) (fun h => ?_)
        | refine g_splitP rfl rfl (fun h => ?_) (fun h => ?_)
        | refine g_idx T hC (rows := R.map rowR) rfl rfl rfl (Int.natCast_nonneg _) (map_at hr) rfl rfl ?_
        | refine g_idx T hC (rows := [x, y].map intR) rfl rfl rfl (by decide) rfl rfl rfl ?_
      all_goals rw [wrapS (by omega), wrapS (by omega), ← hl1]
      all_goals first
        | refine g_subF 9 rfl (LeS.qq (b' := thereB R a (i + 1)) (by rw [ht1, h]; simp)) ?_
        | refine g_subF 9 rfl (LeS.qb (b' := thereB R a (i + 1)) (by rw [ht1, h]; simp)) ?_
      all_goals exact g_round (i + 1) (by omega) id (by omega) ⟨rfl, ⟨rfl, rfl, rfl, rfl, rfl, rfl, rfl, rfl, rfl, trivial⟩, ⟨rfl, rfl, rfl, rfl, trivial⟩, rfl, fun _ _ => rfl⟩
    · have hl1 : lessN R a (i + 1) = lessN R a i := by rw [hl1, if_neg c1]; rfl
      repeat' first
        | refine g_go T hC true 400 rfl rfl ?_
        | (exact absurd (of_decide_eq_true h) c1)
        | refine g_cond rfl (fun h => ?_) (fun h => ?_)
        | refine g_end T hC (by kernel_rfl) ?_
        | refine g_splitD (fun h => ?_) (fun h => ?_)
        | refine g_splitG rfl rfl rfl (fun h => ?_) (fun h => ?_)
        | refine g_splitP rfl rfl (fun h => ?_) (fun h => ?_)
        | refine g_idx T hC (rows := R.map rowR) rfl rfl rfl (Int.natCast_nonneg _) (map_at hr) rfl rfl ?_
        | refine g_idx T hC (rows := [x, y].map intR) rfl rfl rfl (by decide) rfl rfl rfl ?_
      all_goals rw [wrapS (by omega), ← hl1]
      all_goals first
        | refine g_subF 9 rfl (LeS.qq (b' := thereB R a (i + 1)) (by rw [ht1, h]; simp)) ?_
        | refine g_subF 9 rfl (LeS.qb (b' := thereB R a (i + 1)) (by rw [ht1, h]; simp)) ?_
      all_goals exact g_round (i + 1) (by omega) id (by omega) ⟨rfl, ⟨rfl, rfl, rfl, rfl, rfl, rfl, rfl, rfl, rfl, trivial⟩, ⟨rfl, rfl, rfl, rfl, trivial⟩, rfl, fun _ _ => rfl⟩
  have hge : R.length = i := by have := of_decide_eq_false h; omega
  subst hge
  clear h hi
  rw [lessN_end hT, thereB_end hT]
  clear hT
  repeat' first
    | refine g_go T hC true 400 rfl rfl ?_
    | (exfalso; first | (simp only [decide_eq_true_eq, decide_eq_false_iff_not, List.length_map, Bool.not_eq_true', Bool.not_eq_false'] at *; omega) | (simp at h; done))
    | (exfalso; simp at h; done)
    | refine g_cond rfl (fun h => ?_) (fun h => ?_)
    | refine g_end T hC (by kernel_rfl) ?_
    | refine g_splitD (fun h => ?_) (fun h => ?_)
    | refine g_splitG rfl rfl rfl (fun h => ?_) (fun h => ?_)
    | refine g_splitP rfl rfl (fun h => ?_) (fun h => ?_)
    | refine g_outE ?_
    | refine g_call hC (hY) rfl rfl (LeSs.refl _) rfl rfl rfl ?_
  all_goals exact g_fin ⟨.inl rfl, id, _, rfl, .refl _, trivial, rfl, rfl⟩

theorem rdict7 (R : Rws) (hR : R.length ≤ 500) (hT : TabOk 2 (ltC 1) R) (j : Nat) (a : Int) (ha : a = j) (r : Rw) (v : Int) (hq : R[j]? = some r) (hv : r[0]? = some v) : FnOK Tryz.prog 37 [aggS (stR 1 R), aggS [ki 7, intsP [a]]] [] (.tup [aggS (stR 1 R), aggS (rsR (okR v))]) [] := by
  have hlm : (R.map rowR).length = R.length := List.length_map _
  have hY := yield_ok 1 R v
  have hjl := (List.getElem?_eq_some_iff.1 hq).1
  have hq' : (R.map rowR)[a.toNat]? = some (rowR r) := by rw [show a.toNat = j by omega]; exact map_at hq
  refine fn_ok T Tryz.func37 (by kernel_rfl) rfl rfl rfl rfl fun C hC => ?_
  repeat' first
    | refine g_go T hC true 400 rfl rfl ?_
    | (exfalso; simp at h; done)
    | refine g_cond rfl (fun h => ?_) (fun h => ?_)
    | refine g_end T hC (by kernel_rfl) ?_
    | refine g_splitD (fun h => ?_) (fun h => ?_)
    | refine g_splitG rfl rfl rfl (fun h => ?_) (fun h => ?_)
    | refine g_splitP rfl rfl (fun h => ?_) (fun h => ?_)
    | refine g_idx T hC (rows := [a].map intR) rfl rfl rfl (by decide) rfl rfl rfl ?_
  rw [hlm]
  refine g_sub 9 rfl (LeS.qb rfl) ?_
  refine g_loop (fun i : Nat => i ≤ R.length) (fun i => ([(2, .one (.bx 1002 0)), (3, .one (.bx 1003 0)), (4, .one (.bx 1004 0)), (5, .one (.bx 1005 0)), (6, I R.length), (7, I a), (8, I (lessN R a i)), (9, .bq (thereB R a i)), (10, I i)], [(1002, some (.box [.p (ki 1), .p (rowsP R)])), (1003, some (.box [.p (ki 7), .p (intsP [a])])), (1004, some (.box [.p (ki 0), .p (.k (.slice none 0 0))])), (1005, some (.box [.p (ki 0), .p (ki 0), .p (.k (.slice none 0 0))]))])) (fun i => R.length - i) hC
    0 (Nat.zero_le _) id ⟨rfl, ⟨rfl, rfl, rfl, rfl, rfl, rfl, rfl, rfl, rfl, trivial⟩, ⟨rfl, rfl, rfl, rfl, trivial⟩, rfl, fun _ _ => rfl⟩ ?_
  intro i hi
  refine g_run' T hC true 200 rfl ?_
  refine g_cond rfl (fun h => ?_) (fun h => ?_)
  · have hlt : i < R.length := by simpa using h
    clear h
    obtain ⟨r, hr⟩ := exists_at hlt
    obtain ⟨x, y, rfl⟩ := len2 (hT.wide r (List.mem_of_getElem? hr))
    have hl1 := lessN_succ (k := a) hr
    have ht1 := thereB_succ (k := a) hr
    have hle := lessN_le R a i
    rw [show at0 [x, y] 0 = x from rfl] at hl1 ht1
    by_cases c1 : x < a
    · rw [if_pos c1] at hl1
      repeat' first
        | refine g_go T hC true 400 rfl rfl ?_
        | (exact absurd c1 (of_decide_eq_false h))
        | refine g_cond rfl (fun h => ?_) (fun h => ?_)
        | refine g_end T hC (by kernel_rfl) ?_
        | refine g_splitD (fun h => ?_) (fun h => ?_)
        | refine g_splitG rfl rfl rfl (fun h => ?_) (fun h => ?_)
        | refine g_splitP rfl rfl (fun h => ?_) (fun h => ?_)
        | refine g_idx T hC (rows := R.map rowR) rfl rfl rfl (Int.natCast_nonneg _) (map_at hr) rfl rfl ?_
        | refine g_idx T hC (rows := [x, y].map intR) rfl rfl rfl (by decide) rfl rfl rfl ?_
      all_goals rw [wrapS (by omega), wrapS (by omega), ← hl1]
      all_goals first
        | refine g_subF 9 rfl (LeS.qq (b' := thereB R a (i + 1)) (by rw [ht1, h]; simp)) ?_
        | refine g_subF 9 rfl (LeS.qb (b' := thereB R a (i + 1)) (by rw [ht1, h]; simp)) ?_
      all_goals exact g_round (i + 1) (by omega) id (by omega) ⟨rfl, ⟨rfl, rfl, rfl, rfl, rfl, rfl, rfl, rfl, rfl, trivial⟩, ⟨rfl, rfl, rfl, rfl, trivial⟩, rfl, fun _ _ => rfl⟩
    · have hl1 : lessN R a (i + 1) = lessN R a i := by rw [hl1, if_neg c1]; rfl
      repeat' first
        | refine g_go T hC true 400 rfl rfl ?_
        | (exact absurd (of_decide_eq_true h) c1)
        | refine g_cond rfl (fun h => ?_) (fun h => ?_)
        | refine g_end T hC (by kernel_rfl) ?_
        | refine g_splitD (fun h => ?_) (fun h => ?_)
        | refine g_splitG rfl rfl rfl (fun h => ?_) (fun h => ?_)
        | refine g_splitP rfl rfl (fun h => ?_) (fun h => ?_)
        | refine g_idx T hC (rows := R.map rowR) rfl rfl rfl (Int.natCast_nonneg _) (map_at hr) rfl rfl ?_
        | refine g_idx T hC (rows := [x, y].map intR) rfl rfl rfl (by decide) rfl rfl rfl ?_
      all_goals rw [wrapS (by omega), ← hl1]
      all_goals first
        | refine g_subF 9 rfl (LeS.qq (b' := thereB R a (i + 1)) (by rw [ht1, h]; simp)) ?_
        | refine g_subF 9 rfl (LeS.qb (b' := thereB R a (i + 1)) (by rw [ht1, h]; simp)) ?_
      all_goals exact g_round (i + 1) (by omega) id (by omega) ⟨rfl, ⟨rfl, rfl, rfl, rfl, rfl, rfl, rfl, rfl, rfl, trivial⟩, ⟨rfl, rfl, rfl, rfl, trivial⟩, rfl, fun _ _ => rfl⟩
  have hge : R.length = i := by have := of_decide_eq_false h; omega
  subst hge
  clear h hi
  rw [lessN_end hT, thereB_end hT]
  clear hT
  repeat' first
    | refine g_go T hC true 400 rfl rfl ?_
    | (exfalso; first | (simp only [decide_eq_true_eq, decide_eq_false_iff_not, List.length_map, Bool.not_eq_true', Bool.not_eq_false'] at *; omega) | (simp at h; done))
    | (exfalso; simp at h; done)
    | refine g_cond rfl (fun h => ?_) (fun h => ?_)
    | refine g_end T hC (by kernel_rfl) ?_
    | refine g_splitD (fun h => ?_) (fun h => ?_)
    | refine g_splitG rfl rfl rfl (fun h => ?_) (fun h => ?_)
    | refine g_splitP rfl rfl (fun h => ?_) (fun h => ?_)
    | refine g_outE ?_
    | refine g_idx T hC (rows := R.map rowR) rfl rfl rfl (by omega) hq' rfl rfl ?_
    | refine g_idx T hC (rows := r.map intR) rfl rfl rfl (by decide) (map_atI hv) rfl rfl ?_
    | refine g_call hC (hY) rfl rfl (LeSs.refl _) rfl rfl rfl ?_
  all_goals exact g_fin ⟨.inl rfl, id, _, rfl, .refl _, trivial, rfl, rfl⟩

theorem rdict6 (R : Rws) (hR : R.length ≤ 500) (hT : TabOk 2 (ltC 1) R) (a : Int) : FnOK Tryz.prog 37 [aggS (stR 1 R), aggS [ki 6, intsP [a]]] [] (.tup [aggS (stR 1 R), aggS (rsR (okR (posC 1 R [a])))]) [] := by
  have hlm : (R.map rowR).length = R.length := List.length_map _
  have hY := yield_ok 1 R (posC 1 R [a])
  refine fn_ok T Tryz.func37 (by kernel_rfl) rfl rfl rfl rfl fun C hC => ?_
  repeat' first
    | refine g_go T hC true 400 rfl rfl ?_
    | (exfalso; simp at h; done)
    | refine g_cond rfl (fun h => ?_) (fun h => ?_)
    | refine g_end T hC (by kernel_rfl) ?_
    | refine g_splitD (fun h => ?_) (fun h => ?_)
    | refine g_splitG rfl rfl rfl (fun h => ?_) (fun h => ?_)
    | refine g_splitP rfl rfl (fun h => ?_) (fun h => ?_)
    | refine g_idx T hC (rows := [a].map intR) rfl rfl rfl (by decide) rfl rfl rfl ?_
  rw [hlm]
  refine g_sub 9 rfl (LeS.qb rfl) ?_
  refine g_loop (fun i : Nat => i ≤ R.length) (fun i => ([(2, .one (.bx 1002 0)), (3, .one (.bx 1003 0)), (4, .one (.bx 1004 0)), (5, .one (.bx 1005 0)), (6, I R.length), (7, I a), (8, I (lessN R a i)), (9, .bq (thereB R a i)), (10, I i)], [(1002, some (.box [.p (ki 1), .p (rowsP R)])), (1003, some (.box [.p (ki 6), .p (intsP [a])])), (1004, some (.box [.p (ki 0), .p (.k (.slice none 0 0))])), (1005, some (.box [.p (ki 0), .p (ki 0), .p (.k (.slice none 0 0))]))])) (fun i => R.length - i) hC
    0 (Nat.zero_le _) id ⟨rfl, ⟨rfl, rfl, rfl, rfl, rfl, rfl, rfl, rfl, rfl, trivial⟩, ⟨rfl, rfl, rfl, rfl, trivial⟩, rfl, fun _ _ => rfl⟩ ?_
  intro i hi
  refine g_run' T hC true 200 rfl ?_
  refine g_cond rfl (fun h => ?_) (fun h => ?_)
  · have hlt : i < R.length := by simpa using h
    clear h
    obtain ⟨r, hr⟩ := exists_at hlt
    obtain ⟨x, y, rfl⟩ := len2 (hT.wide r (List.mem_of_getElem? hr))
    have hl1 := lessN_succ (k := a) hr
    have ht1 := thereB_succ (k := a) hr
    have hle := lessN_le R a i
    rw [show at0 [x, y] 0 = x from rfl] at hl1 ht1
    by_cases c1 : x < a
    · rw [if_pos c1] at hl1
      repeat' first
        | refine g_go T hC true 400 rfl rfl ?_
        | (exact absurd c1 (of_decide_eq_false h))
        | refine g_cond rfl (fun h => ?_) (fun h => ?_)
        | refine g_end T hC (by kernel_rfl) ?_
        | refine g_splitD (fun h => ?_) (fun h => ?_)
        | refine g_splitG rfl rfl rfl (fun h => ?_) (fun h => ?_)
        | refine g_splitP rfl rfl (fun h => ?_) (fun h => ?_)
        | refine g_idx T hC (rows := R.map rowR) rfl rfl rfl (Int.natCast_nonneg _) (map_at hr) rfl rfl ?_
        | refine g_idx T hC (rows := [x, y].map intR) rfl rfl rfl (by decide) rfl rfl rfl ?_
      all_goals rw [wrapS (by omega), wrapS (by omega), ← hl1]
      all_goals first
        | refine g_subF 9 rfl (LeS.qq (b' := thereB R a (i + 1)) (by rw [ht1, h]; simp)) ?_
        | refine g_subF 9 rfl (LeS.qb (b' := thereB R a (i + 1)) (by rw [ht1, h]; simp)) ?_
      all_goals exact g_round (i + 1) (by omega) id (by omega) ⟨rfl, ⟨rfl, rfl, rfl, rfl, rfl, rfl, rfl, rfl, rfl, trivial⟩, ⟨rfl, rfl, rfl, rfl, trivial⟩, rfl, fun _ _ => rfl⟩
    · have hl1 : lessN R a (i + 1) = lessN R a i := by rw [hl1, if_neg c1]; rfl
      repeat' first
        | refine g_go T hC true 400 rfl rfl ?_
        | (exact absurd (of_decide_eq_true h) c1)
        | refine g_cond rfl (fun h => ?_) (fun h => ?_)
        | refine g_end T hC (by kernel_rfl) ?_
        | refine g_splitD (fun h => ?_) (fun h => ?_)
        | refine g_splitG rfl rfl rfl (fun h => ?_) (fun h => ?_)
        | refine g_splitP rfl rfl (fun h => ?_) (fun h => ?_)
        | refine g_idx T hC (rows := R.map rowR) rfl rfl rfl (Int.natCast_nonneg _) (map_at hr) rfl rfl ?_
        | refine g_idx T hC (rows := [x, y].map intR) rfl rfl rfl (by decide) rfl rfl rfl ?_
      all_goals rw [wrapS (by omega), ← hl1]
      all_goals first
        | refine g_subF 9 rfl (LeS.qq (b' := thereB R a (i + 1)) (by rw [ht1, h]; simp)) ?_
        | refine g_subF 9 rfl (LeS.qb (b' := thereB R a (i + 1)) (by rw [ht1, h]; simp)) ?_
      all_goals exact g_round (i + 1) (by omega) id (by omega) ⟨rfl, ⟨rfl, rfl, rfl, rfl, rfl, rfl, rfl, rfl, rfl, trivial⟩, ⟨rfl, rfl, rfl, rfl, trivial⟩, rfl, fun _ _ => rfl⟩
  have hge : R.length = i := by have := of_decide_eq_false h; omega
  subst hge
  clear h hi
  rw [lessN_end hT, thereB_end hT]
  repeat' first
    | refine g_go T hC true 400 rfl rfl ?_
    | (exfalso; simp at h; done)
    | refine g_cond rfl (fun h => ?_) (fun h => ?_)
    | refine g_end T hC (by kernel_rfl) ?_
    | refine g_splitD (fun h => ?_) (fun h => ?_)
    | refine g_splitG rfl rfl rfl (fun h => ?_) (fun h => ?_)
    | refine g_splitP rfl rfl (fun h => ?_) (fun h => ?_)
    | refine g_outE ?_
    | refine g_call hC (hY) rfl rfl (LeSs.refl _) rfl rfl rfl ?_
  all_goals exact g_fin ⟨.inl rfl, id, _, rfl, .refl _, trivial, rfl, rfl⟩

theorem rdict5n (R : Rws) (hR : R.length ≤ 500) (hT : TabOk 2 (ltC 1) R) (a : Int) (hp : posC 1 R [a] = R.length) : FnOK Tryz.prog 37 [aggS (stR 1 R), aggS [ki 5, intsP [a]]] [] (.tup [aggS (stR 1 R), aggS (rsR (erR 12))]) [] := by
  have hlm : (R.map rowR).length = R.length := List.length_map _
  have hY := fail_ok 1 R 12
  refine fn_ok T Tryz.func37 (by kernel_rfl) rfl rfl rfl rfl fun C hC => ?_
  repeat' first
    | refine g_go T hC true 400 rfl rfl ?_
    | (exfalso; simp at h; done)
    | refine g_cond rfl (fun h => ?_) (fun h => ?_)
    | refine g_end T hC (by kernel_rfl) ?_
    | refine g_splitD (fun h => ?_) (fun h => ?_)
    | refine g_splitG rfl rfl rfl (fun h => ?_) (fun h => ?_)
    | refine g_splitP rfl rfl (fun h => ?_) (fun h => ?_)
    | refine g_idx T hC (rows := [a].map intR) rfl rfl rfl (by decide) rfl rfl rfl ?_
  rw [hlm]
  refine g_sub 9 rfl (LeS.qb rfl) ?_
  refine g_loop (fun i : Nat => i ≤ R.length) (fun i => ([(2, .one (.bx 1002 0)), (3, .one (.bx 1003 0)), (4, .one (.bx 1004 0)), (5, .one (.bx 1005 0)), (6, I R.length), (7, I a), (8, I (lessN R a i)), (9, .bq (thereB R a i)), (10, I i)], [(1002, some (.box [.p (ki 1), .p (rowsP R)])), (1003, some (.box [.p (ki 5), .p (intsP [a])])), (1004, some (.box [.p (ki 0), .p (.k (.slice none 0 0))])), (1005, some (.box [.p (ki 0), .p (ki 0), .p (.k (.slice none 0 0))]))])) (fun i => R.length - i) hC
    0 (Nat.zero_le _) id ⟨rfl, ⟨rfl, rfl, rfl, rfl, rfl, rfl, rfl, rfl, rfl, trivial⟩, ⟨rfl, rfl, rfl, rfl, trivial⟩, rfl, fun _ _ => rfl⟩ ?_
  intro i hi
  refine g_run' T hC true 200 rfl ?_
  refine g_cond rfl (fun h => ?_) (fun h => ?_)
  · have hlt : i < R.length := by simpa using h
    clear h
    obtain ⟨r, hr⟩ := exists_at hlt
    obtain ⟨x, y, rfl⟩ := len2 (hT.wide r (List.mem_of_getElem? hr))
    have hl1 := lessN_succ (k := a) hr
    have ht1 := thereB_succ (k := a) hr
    have hle := lessN_le R a i
    rw [show at0 [x, y] 0 = x from rfl] at hl1 ht1
    by_cases c1 : x < a
    · rw [if_pos c1] at hl1
      repeat' first
        | refine g_go T hC true 400 rfl rfl ?_
        | (exact absurd c1 (of_decide_eq_false h))
        | refine g_cond rfl (fun h => ?_) (fun h => ?_)
        | refine g_end T hC (by kernel_rfl) ?_
        | refine g_splitD (fun h => ?_) (fun h => ?_)
        | refine g_splitG rfl rfl rfl (fun h => ?_) (fun h => ?_)
        | refine g_splitP rfl rfl (fun h => ?_) (fun h => ?_)
        | refine g_idx T hC (rows := R.map rowR) rfl rfl rfl (Int.natCast_nonneg _) (map_at hr) rfl rfl ?_
        | refine g_idx T hC (rows := [x, y].map intR) rfl rfl rfl (by decide) rfl rfl rfl ?_
      all_goals rw [wrapS (by omega), wrapS (by omega), ← hl1]
      all_goals first
        | refine g_subF 9 rfl (LeS.qq (b' := thereB R a (i + 1)) (by rw [ht1, h]; simp)) ?_
        | refine g_subF 9 rfl (LeS.qb (b' := thereB R a (i + 1)) (by rw [ht1, h]; simp)) ?_
      all_goals exact g_round (i + 1) (by omega) id (by omega) ⟨rfl, ⟨rfl, rfl, rfl, rfl, rfl, rfl, rfl, rfl, rfl, trivial⟩, ⟨rfl, rfl, rfl, rfl, trivial⟩, rfl, fun _ _ => rfl⟩
    · have hl1 : lessN R a (i + 1) = lessN R a i := by rw [hl1, if_neg c1]; rfl
      repeat' first
        | refine g_go T hC true 400 rfl rfl ?_
        | (exact absurd (of_decide_eq_true h) c1)
        | refine g_cond rfl (fun h => ?_) (fun h => ?_)
        | refine g_end T hC (by kernel_rfl) ?_
        | refine g_splitD (fun h => ?_) (fun h => ?_)
        | refine g_splitG rfl rfl rfl (fun h => ?_) (fun h => ?_)
        | refine g_splitP rfl rfl (fun h => ?_) (fun h => ?_)
        | refine g_idx T hC (rows := R.map rowR) rfl rfl rfl (Int.natCast_nonneg _) (map_at hr) rfl rfl ?_
        | refine g_idx T hC (rows := [x, y].map intR) rfl rfl rfl (by decide) rfl rfl rfl ?_
      all_goals rw [wrapS (by omega), ← hl1]
      all_goals first
        | refine g_subF 9 rfl (LeS.qq (b' := thereB R a (i + 1)) (by rw [ht1, h]; simp)) ?_
        | refine g_subF 9 rfl (LeS.qb (b' := thereB R a (i + 1)) (by rw [ht1, h]; simp)) ?_
      all_goals exact g_round (i + 1) (by omega) id (by omega) ⟨rfl, ⟨rfl, rfl, rfl, rfl, rfl, rfl, rfl, rfl, rfl, trivial⟩, ⟨rfl, rfl, rfl, rfl, trivial⟩, rfl, fun _ _ => rfl⟩
  have hge : R.length = i := by have := of_decide_eq_false h; omega
  subst hge
  clear h hi
  rw [lessN_end hT, thereB_end hT]
  rw [hp]
  clear hT
  repeat' first
    | refine g_go T hC true 400 rfl rfl ?_
    | (exfalso; first | (simp only [decide_eq_true_eq, decide_eq_false_iff_not, List.length_map, Bool.not_eq_true', Bool.not_eq_false'] at *; omega) | (simp at h; done))
    | (exfalso; simp at h; done)
    | refine g_cond rfl (fun h => ?_) (fun h => ?_)
    | refine g_end T hC (by kernel_rfl) ?_
    | refine g_splitD (fun h => ?_) (fun h => ?_)
    | refine g_splitG rfl rfl rfl (fun h => ?_) (fun h => ?_)
    | refine g_splitP rfl rfl (fun h => ?_) (fun h => ?_)
    | refine g_outE ?_
    | refine g_call hC (hY) rfl rfl (LeSs.refl _) rfl rfl rfl ?_
  all_goals exact g_fin ⟨.inl rfl, id, _, rfl, .refl _, trivial, rfl, rfl⟩

theorem rdict5 (R : Rws) (hR : R.length ≤ 500) (hT : TabOk 2 (ltC 1) R) (a : Int) (p : Nat) (hp : posC 1 R [a] = p) (hpl : p < R.length) (r : Rw) (v : Int) (hq : R[p]? = some r) (hv : r[0]? = some v) : FnOK Tryz.prog 37 [aggS (stR 1 R), aggS [ki 5, intsP [a]]] [] (.tup [aggS (stR 1 R), aggS (rsR (okR v))]) [] := by
  have hlm : (R.map rowR).length = R.length := List.length_map _
  have hY := yield_ok 1 R v
  refine fn_ok T Tryz.func37 (by kernel_rfl) rfl rfl rfl rfl fun C hC => ?_
  repeat' first
    | refine g_go T hC true 400 rfl rfl ?_
    | (exfalso; simp at h; done)
    | refine g_cond rfl (fun h => ?_) (fun h => ?_)
    | refine g_end T hC (by kernel_rfl) ?_
    | refine g_splitD (fun h => ?_) (fun h => ?_)
    | refine g_splitG rfl rfl rfl (fun h => ?_) (fun h => ?_)
    | refine g_splitP rfl rfl (fun h => ?_) (fun h => ?_)
    | refine g_idx T hC (rows := [a].map intR) rfl rfl rfl (by decide) rfl rfl rfl ?_
  rw [hlm]
  refine g_sub 9 rfl (LeS.qb rfl) ?_
  refine g_loop (fun i : Nat => i ≤ R.length) (fun i => ([(2, .one (.bx 1002 0)), (3, .one (.bx 1003 0)), (4, .one (.bx 1004 0)), (5, .one (.bx 1005 0)), (6, I R.length), (7, I a), (8, I (lessN R a i)), (9, .bq (thereB R a i)), (10, I i)], [(1002, some (.box [.p (ki 1), .p (rowsP R)])), (1003, some (.box [.p (ki 5), .p (intsP [a])])), (1004, some (.box [.p (ki 0), .p (.k (.slice none 0 0))])), (1005, some (.box [.p (ki 0), .p (ki 0), .p (.k (.slice none 0 0))]))])) (fun i => R.length - i) hC
    0 (Nat.zero_le _) id ⟨rfl, ⟨rfl, rfl, rfl, rfl, rfl, rfl, rfl, rfl, rfl, trivial⟩, ⟨rfl, rfl, rfl, rfl, trivial⟩, rfl, fun _ _ => rfl⟩ ?_
  intro i hi
  refine g_run' T hC true 200 rfl ?_
  refine g_cond rfl (fun h => ?_) (fun h => ?_)
  · have hlt : i < R.length := by simpa using h
    clear h
    obtain ⟨r, hr⟩ := exists_at hlt
    obtain ⟨x, y, rfl⟩ := len2 (hT.wide r (List.mem_of_getElem? hr))
    have hl1 := lessN_succ (k := a) hr
    have ht1 := thereB_succ (k := a) hr
    have hle := lessN_le R a i
    rw [show at0 [x, y] 0 = x from rfl] at hl1 ht1
    by_cases c1 : x < a
    · rw [if_pos c1] at hl1
      repeat' first
        | refine g_go T hC true 400 rfl rfl ?_
        | (exact absurd c1 (of_decide_eq_false h))
        | refine g_cond rfl (fun h => ?_) (fun h => ?_)
        | refine g_end T hC (by kernel_rfl) ?_
        | refine g_splitD (fun h => ?_) (fun h => ?_)
        | refine g_splitG rfl rfl rfl (fun h => ?_) (fun h => ?_)
        | refine g_splitP rfl rfl (fun h => ?_) (fun h => ?_)
        | refine g_idx T hC (rows := R.map rowR) rfl rfl rfl (Int.natCast_nonneg _) (map_at hr) rfl rfl ?_
        | refine g_idx T hC (rows := [x, y].map intR) rfl rfl rfl (by decide) rfl rfl rfl ?_
      all_goals rw [wrapS (by omega), wrapS (by omega), ← hl1]
      all_goals first
        | refine g_subF 9 rfl (LeS.qq (b' := thereB R a (i + 1)) (by rw [ht1, h]; simp)) ?_
        | refine g_subF 9 rfl (LeS.qb (b' := thereB R a (i + 1)) (by rw [ht1, h]; simp)) ?_
      all_goals exact g_round (i + 1) (by omega) id (by omega) ⟨rfl, ⟨rfl, rfl, rfl, rfl, rfl, rfl, rfl, rfl, rfl, trivial⟩, ⟨rfl, rfl, rfl, rfl, trivial⟩, rfl, fun _ _ => rfl⟩
    · have hl1 : lessN R a (i + 1) = lessN R a i := by rw [hl1, if_neg c1]; rfl
      repeat' first
        | refine g_go T hC true 400 rfl rfl ?_
        | (exact absurd (of_decide_eq_true h) c1)
        | refine g_cond rfl (fun h => ?_) (fun h => ?_)
        | refine g_end T hC (by kernel_rfl) ?_
        | refine g_splitD (fun h => ?_) (fun h => ?_)
        | refine g_splitG rfl rfl rfl (fun h => ?_) (fun h => ?_)
        | refine g_splitP rfl rfl (fun h => ?_) (fun h => ?_)
        | refine g_idx T hC (rows := R.map rowR) rfl rfl rfl (Int.natCast_nonneg _) (map_at hr) rfl rfl ?_
        | refine g_idx T hC (rows := [x, y].map intR) rfl rfl rfl (by decide) rfl rfl rfl ?_
      all_goals rw [wrapS (by omega), ← hl1]
      all_goals first
        | refine g_subF 9 rfl (LeS.qq (b' := thereB R a (i + 1)) (by rw [ht1, h]; simp)) ?_
        | refine g_subF 9 rfl (LeS.qb (b' := thereB R a (i + 1)) (by rw [ht1, h]; simp)) ?_
      all_goals exact g_round (i + 1) (by omega) id (by omega) ⟨rfl, ⟨rfl, rfl, rfl, rfl, rfl, rfl, rfl, rfl, rfl, trivial⟩, ⟨rfl, rfl, rfl, rfl, trivial⟩, rfl, fun _ _ => rfl⟩
  have hge : R.length = i := by have := of_decide_eq_false h; omega
  subst hge
  clear h hi
  rw [lessN_end hT, thereB_end hT]
  rw [hp]
  clear hT
  repeat' first
    | refine g_go T hC true 400 rfl rfl ?_
    | (exfalso; first | (simp only [decide_eq_true_eq, decide_eq_false_iff_not, List.length_map, Bool.not_eq_true', Bool.not_eq_false'] at *; omega) | (simp at h; done))
    | (exfalso; simp at h; done)
    | refine g_cond rfl (fun h => ?_) (fun h => ?_)
    | refine g_end T hC (by kernel_rfl) ?_
    | refine g_splitD (fun h => ?_) (fun h => ?_)
    | refine g_splitG rfl rfl rfl (fun h => ?_) (fun h => ?_)
    | refine g_splitP rfl rfl (fun h => ?_) (fun h => ?_)
    | refine g_outE ?_
    | refine g_idx T hC (rows := R.map rowR) rfl rfl rfl (Int.natCast_nonneg _) (map_at hq) rfl rfl ?_
    | refine g_idx T hC (rows := r.map intR) rfl rfl rfl (by decide) (map_atI hv) rfl rfl ?_
    | refine g_call hC (hY) rfl rfl (LeSs.refl _) rfl rfl rfl ?_
  all_goals exact g_fin ⟨.inl rfl, id, _, rfl, .refl _, trivial, rfl, rfl⟩

theorem rdict4y (R : Rws) (hR : R.length ≤ 500) (hT : TabOk 2 (ltC 1) R) (a : Int) (hh : hasC 1 R [a] = true) : FnOK Tryz.prog 37 [aggS (stR 1 R), aggS [ki 4, intsP [a]]] [] (.tup [aggS (stR 1 R), aggS (rsR (okR a))]) [] := by
  have hlm : (R.map rowR).length = R.length := List.length_map _
  have hY := yield_ok 1 R a
  refine fn_ok T Tryz.func37 (by kernel_rfl) rfl rfl rfl rfl fun C hC => ?_
  repeat' first
    | refine g_go T hC true 400 rfl rfl ?_
    | (exfalso; simp at h; done)
    | refine g_cond rfl (fun h => ?_) (fun h => ?_)
    | refine g_end T hC (by kernel_rfl) ?_
    | refine g_splitD (fun h => ?_) (fun h => ?_)
    | refine g_splitG rfl rfl rfl (fun h => ?_) (fun h => ?_)
    | refine g_splitP rfl rfl (fun h => ?_) (fun h => ?_)
    | refine g_idx T hC (rows := [a].map intR) rfl rfl rfl (by decide) rfl rfl rfl ?_
  rw [hlm]
  refine g_sub 9 rfl (LeS.qb rfl) ?_
  refine g_loop (fun i : Nat => i ≤ R.length) (fun i => ([(2, .one (.bx 1002 0)), (3, .one (.bx 1003 0)), (4, .one (.bx 1004 0)), (5, .one (.bx 1005 0)), (6, I R.length), (7, I a), (8, I (lessN R a i)), (9, .bq (thereB R a i)), (10, I i)], [(1002, some (.box [.p (ki 1), .p (rowsP R)])), (1003, some (.box [.p (ki 4), .p (intsP [a])])), (1004, some (.box [.p (ki 0), .p (.k (.slice none 0 0))])), (1005, some (.box [.p (ki 0), .p (ki 0), .p (.k (.slice none 0 0))]))])) (fun i => R.length - i) hC
    0 (Nat.zero_le _) id ⟨rfl, ⟨rfl, rfl, rfl, rfl, rfl, rfl, rfl, rfl, rfl, trivial⟩, ⟨rfl, rfl, rfl, rfl, trivial⟩, rfl, fun _ _ => rfl⟩ ?_
  intro i hi
  refine g_run' T hC true 200 rfl ?_
  refine g_cond rfl (fun h => ?_) (fun h => ?_)
  · have hlt : i < R.length := by simpa using h
    clear h
    obtain ⟨r, hr⟩ := exists_at hlt
    obtain ⟨x, y, rfl⟩ := len2 (hT.wide r (List.mem_of_getElem? hr))
    have hl1 := lessN_succ (k := a) hr
    have ht1 := thereB_succ (k := a) hr
    have hle := lessN_le R a i
    rw [show at0 [x, y] 0 = x from rfl] at hl1 ht1
    by_cases c1 : x < a
    · rw [if_pos c1] at hl1
      repeat' first
        | refine g_go T hC true 400 rfl rfl ?_
        | (exact absurd c1 (of_decide_eq_false h))
        | refine g_cond rfl (fun h => ?_) (fun h => ?_)
        | refine g_end T hC (by kernel_rfl) ?_
        | refine g_splitD (fun h => ?_) (fun h => ?_)
        | refine g_splitG rfl rfl rfl (fun h => ?_) (fun h => ?_)
        | refine g_splitP rfl rfl (fun h => ?_) (fun h => ?_)
        | refine g_idx T hC (rows := R.map rowR) rfl rfl rfl (Int.natCast_nonneg _) (map_at hr) rfl rfl ?_
        | refine g_idx T hC (rows := [x, y].map intR) rfl rfl rfl (by decide) rfl rfl rfl ?_
      all_goals rw [wrapS (by omega), wrapS (by omega), ← hl1]
      all_goals first
        | refine g_subF 9 rfl (LeS.qq (b' := thereB R a (i + 1)) (by rw [ht1, h]; simp)) ?_
        | refine g_subF 9 rfl (LeS.qb (b' := thereB R a (i + 1)) (by rw [ht1, h]; simp)) ?_
      all_goals exact g_round (i + 1) (by omega) id (by omega) ⟨rfl, ⟨rfl, rfl, rfl, rfl, rfl, rfl, rfl, rfl, rfl, trivial⟩, ⟨rfl, rfl, rfl, rfl, trivial⟩, rfl, fun _ _ => rfl⟩
    · have hl1 : lessN R a (i + 1) = lessN R a i := by rw [hl1, if_neg c1]; rfl
      repeat' first
        | refine g_go T hC true 400 rfl rfl ?_
        | (exact absurd (of_decide_eq_true h) c1)
        | refine g_cond rfl (fun h => ?_) (fun h => ?_)
        | refine g_end T hC (by kernel_rfl) ?_
        | refine g_splitD (fun h => ?_) (fun h => ?_)
        | refine g_splitG rfl rfl rfl (fun h => ?_) (fun h => ?_)
        | refine g_splitP rfl rfl (fun h => ?_) (fun h => ?_)
        | refine g_idx T hC (rows := R.map rowR) rfl rfl rfl (Int.natCast_nonneg _) (map_at hr) rfl rfl ?_
        | refine g_idx T hC (rows := [x, y].map intR) rfl rfl rfl (by decide) rfl rfl rfl ?_
      all_goals rw [wrapS (by omega), ← hl1]
      all_goals first
        | refine g_subF 9 rfl (LeS.qq (b' := thereB R a (i + 1)) (by rw [ht1, h]; simp)) ?_
        | refine g_subF 9 rfl (LeS.qb (b' := thereB R a (i + 1)) (by rw [ht1, h]; simp)) ?_
      all_goals exact g_round (i + 1) (by omega) id (by omega) ⟨rfl, ⟨rfl, rfl, rfl, rfl, rfl, rfl, rfl, rfl, rfl, trivial⟩, ⟨rfl, rfl, rfl, rfl, trivial⟩, rfl, fun _ _ => rfl⟩
  have hge : R.length = i := by have := of_decide_eq_false h; omega
  subst hge
  clear h hi
  rw [lessN_end hT, thereB_end hT]
  rw [hh]
  repeat' first
    | refine g_go T hC true 400 rfl rfl ?_
    | (exfalso; simp at h; done)
    | refine g_cond rfl (fun h => ?_) (fun h => ?_)
    | refine g_end T hC (by kernel_rfl) ?_
    | refine g_splitD (fun h => ?_) (fun h => ?_)
    | refine g_splitG rfl rfl rfl (fun h => ?_) (fun h => ?_)
    | refine g_splitP rfl rfl (fun h => ?_) (fun h => ?_)
    | refine g_outE ?_
    | refine g_call hC (hY) rfl rfl (LeSs.refl _) rfl rfl rfl ?_
  all_goals exact g_fin ⟨.inl rfl, id, _, rfl, .refl _, trivial, rfl, rfl⟩

theorem rdict4n (R : Rws) (hR : R.length ≤ 500) (hT : TabOk 2 (ltC 1) R) (a : Int) (hh : hasC 1 R [a] = false) (hp : posC 1 R [a] = 0) : FnOK Tryz.prog 37 [aggS (stR 1 R), aggS [ki 4, intsP [a]]] [] (.tup [aggS (stR 1 R), aggS (rsR (erR 12))]) [] := by
  have hlm : (R.map rowR).length = R.length := List.length_map _
  have hY := fail_ok 1 R 12
  refine fn_ok T Tryz.func37 (by kernel_rfl) rfl rfl rfl rfl fun C hC => ?_
  repeat' first
    | refine g_go T hC true 400 rfl rfl ?_
    | (exfalso; simp at h; done)
    | refine g_cond rfl (fun h => ?_) (fun h => ?_)
    | refine g_end T hC (by kernel_rfl) ?_
    | refine g_splitD (fun h => ?_) (fun h => ?_)
    | refine g_splitG rfl rfl rfl (fun h => ?_) (fun h => ?_)
    | refine g_splitP rfl rfl (fun h => ?_) (fun h => ?_)
    | refine g_idx T hC (rows := [a].map intR) rfl rfl rfl (by decide) rfl rfl rfl ?_
  rw [hlm]
  refine g_sub 9 rfl (LeS.qb rfl) ?_
  refine g_loop (fun i : Nat => i ≤ R.length) (fun i => ([(2, .one (.bx 1002 0)), (3, .one (.bx 1003 0)), (4, .one (.bx 1004 0)), (5, .one (.bx 1005 0)), (6, I R.length), (7, I a), (8, I (lessN R a i)), (9, .bq (thereB R a i)), (10, I i)], [(1002, some (.box [.p (ki 1), .p (rowsP R)])), (1003, some (.box [.p (ki 4), .p (intsP [a])])), (1004, some (.box [.p (ki 0), .p (.k (.slice none 0 0))])), (1005, some (.box [.p (ki 0), .p (ki 0), .p (.k (.slice none 0 0))]))])) (fun i => R.length - i) hC
    0 (Nat.zero_le _) id ⟨rfl, ⟨rfl, rfl, rfl, rfl, rfl, rfl, rfl, rfl, rfl, trivial⟩, ⟨rfl, rfl, rfl, rfl, trivial⟩, rfl, fun _ _ => rfl⟩ ?_
  intro i hi
  refine g_run' T hC true 200 rfl ?_
  refine g_cond rfl (fun h => ?_) (fun h => ?_)
  · have hlt : i < R.length := by simpa using h
    clear h
    obtain ⟨r, hr⟩ := exists_at hlt
    obtain ⟨x, y, rfl⟩ := len2 (hT.wide r (List.mem_of_getElem? hr))
    have hl1 := lessN_succ (k := a) hr
    have ht1 := thereB_succ (k := a) hr
    have hle := lessN_le R a i
    rw [show at0 [x, y] 0 = x from rfl] at hl1 ht1
    by_cases c1 : x < a
    · rw [if_pos c1] at hl1
      repeat' first
        | refine g_go T hC true 400 rfl rfl ?_
        | (exact absurd c1 (of_decide_eq_false h))
        | refine g_cond rfl (fun h => ?_) (fun h => ?_)
        | refine g_end T hC (by kernel_rfl) ?_
        | refine g_splitD (fun h => ?_) (fun h => ?_)
        | refine g_splitG rfl rfl rfl (fun h => ?_) (fun h => ?_)
        | refine g_splitP rfl rfl (fun h => ?_) (fun h => ?_)
        | refine g_idx T hC (rows := R.map rowR) rfl rfl rfl (Int.natCast_nonneg _) (map_at hr) rfl rfl ?_
        | refine g_idx T hC (rows := [x, y].map intR) rfl rfl rfl (by decide) rfl rfl rfl ?_
      all_goals rw [wrapS (by omega), wrapS (by omega), ← hl1]
      all_goals first
        | refine g_subF 9 rfl (LeS.qq (b' := thereB R a (i + 1)) (by rw [ht1, h]; simp)) ?_
        | refine g_subF 9 rfl (LeS.qb (b' := thereB R a (i + 1)) (by rw [ht1, h]; simp)) ?_
      all_goals exact g_round (i + 1) (by omega) id (by omega) ⟨rfl, ⟨rfl, rfl, rfl, rfl, rfl, rfl, rfl, rfl, rfl, trivial⟩, ⟨rfl, rfl, rfl, rfl, trivial⟩, rfl, fun _ _ => rfl⟩
    · have hl1 : lessN R a (i + 1) = lessN R a i := by rw [hl1, if_neg c1]; rfl
      repeat' first
        | refine g_go T hC true 400 rfl rfl ?_
        | (exact absurd (of_decide_eq_true h) c1)
        | refine g_cond rfl (fun h => ?_) (fun h => ?_)
        | refine g_end T hC (by kernel_rfl) ?_
        | refine g_splitD (fun h => ?_) (fun h => ?_)
        | refine g_splitG rfl rfl rfl (fun h => ?_) (fun h => ?_)
        | refine g_splitP rfl rfl (fun h => ?_) (fun h => ?_)
        | refine g_idx T hC (rows := R.map rowR) rfl rfl rfl (Int.natCast_nonneg _) (map_at hr) rfl rfl ?_
        | refine g_idx T hC (rows := [x, y].map intR) rfl rfl rfl (by decide) rfl rfl rfl ?_
      all_goals rw [wrapS (by omega), ← hl1]
      all_goals first
        | refine g_subF 9 rfl (LeS.qq (b' := thereB R a (i + 1)) (by rw [ht1, h]; simp)) ?_
        | refine g_subF 9 rfl (LeS.qb (b' := thereB R a (i + 1)) (by rw [ht1, h]; simp)) ?_
      all_goals exact g_round (i + 1) (by omega) id (by omega) ⟨rfl, ⟨rfl, rfl, rfl, rfl, rfl, rfl, rfl, rfl, rfl, trivial⟩, ⟨rfl, rfl, rfl, rfl, trivial⟩, rfl, fun _ _ => rfl⟩
  have hge : R.length = i := by have := of_decide_eq_false h; omega
  subst hge
  clear h hi
  rw [lessN_end hT, thereB_end hT]
  rw [hh, hp]
  repeat' first
    | refine g_go T hC true 400 rfl rfl ?_
    | (exfalso; simp at h; done)
    | refine g_cond rfl (fun h => ?_) (fun h => ?_)
    | refine g_end T hC (by kernel_rfl) ?_
    | refine g_splitD (fun h => ?_) (fun h => ?_)
    | refine g_splitG rfl rfl rfl (fun h => ?_) (fun h => ?_)
    | refine g_splitP rfl rfl (fun h => ?_) (fun h => ?_)
    | refine g_outE ?_
    | refine g_call hC (hY) rfl rfl (LeSs.refl _) rfl rfl rfl ?_
  all_goals exact g_fin ⟨.inl rfl, id, _, rfl, .refl _, trivial, rfl, rfl⟩

theorem rdict4 (R : Rws) (hR : R.length ≤ 500) (hT : TabOk 2 (ltC 1) R) (a : Int) (hh : hasC 1 R [a] = false) (p : Nat) (hp : posC 1 R [a] = p + 1) (hpl : p < R.length) (r : Rw) (v : Int) (hq : R[p]? = some r) (hv : r[0]? = some v) : FnOK Tryz.prog 37 [aggS (stR 1 R), aggS [ki 4, intsP [a]]] [] (.tup [aggS (stR 1 R), aggS (rsR (okR v))]) [] := by
  have hlm : (R.map rowR).length = R.length := List.length_map _
  have hY := yield_ok 1 R v
  have hw : IntKind.i64.wrap (((p + 1 : Nat) : Int) - 1) = (p : Int) := by rw [wrap64 (by omega)]; omega
  refine fn_ok T Tryz.func37 (by kernel_rfl) rfl rfl rfl rfl fun C hC => ?_
  repeat' first
    | refine g_go T hC true 400 rfl rfl ?_
    | (exfalso; simp at h; done)
    | refine g_cond rfl (fun h => ?_) (fun h => ?_)
    | refine g_end T hC (by kernel_rfl) ?_
    | refine g_splitD (fun h => ?_) (fun h => ?_)
    | refine g_splitG rfl rfl rfl (fun h => ?_) (fun h => ?_)
    | refine g_splitP rfl rfl (fun h => ?_) (fun h => ?_)
    | refine g_idx T hC (rows := [a].map intR) rfl rfl rfl (by decide) rfl rfl rfl ?_
  rw [hlm]
  refine g_sub 9 rfl (LeS.qb rfl) ?_
  refine g_loop (fun i : Nat => i ≤ R.length) (fun i => ([(2, .one (.bx 1002 0)), (3, .one (.bx 1003 0)), (4, .one (.bx 1004 0)), (5, .one (.bx 1005 0)), (6, I R.length), (7, I a), (8, I (lessN R a i)), (9, .bq (thereB R a i)), (10, I i)], [(1002, some (.box [.p (ki 1), .p (rowsP R)])), (1003, some (.box [.p (ki 4), .p (intsP [a])])), (1004, some (.box [.p (ki 0), .p (.k (.slice none 0 0))])), (1005, some (.box [.p (ki 0), .p (ki 0), .p (.k (.slice none 0 0))]))])) (fun i => R.length - i) hC
    0 (Nat.zero_le _) id ⟨rfl, ⟨rfl, rfl, rfl, rfl, rfl, rfl, rfl, rfl, rfl, trivial⟩, ⟨rfl, rfl, rfl, rfl, trivial⟩, rfl, fun _ _ => rfl⟩ ?_
  intro i hi
  refine g_run' T hC true 200 rfl ?_
  refine g_cond rfl (fun h => ?_) (fun h => ?_)
  · have hlt : i < R.length := by simpa using h
    clear h
    obtain ⟨r, hr⟩ := exists_at hlt
    obtain ⟨x, y, rfl⟩ := len2 (hT.wide r (List.mem_of_getElem? hr))
    have hl1 := lessN_succ (k := a) hr
    have ht1 := thereB_succ (k := a) hr
    have hle := lessN_le R a i
    rw [show at0 [x, y] 0 = x from rfl] at hl1 ht1
    by_cases c1 : x < a
    · rw [if_pos c1] at hl1
      repeat' first
        | refine g_go T hC true 400 rfl rfl ?_
        | (exact absurd c1 (of_decide_eq_false h))
        | refine g_cond rfl (fun h => ?_) (fun h => ?_)
        | refine g_end T hC (by kernel_rfl) ?_
        | refine g_splitD (fun h => ?_) (fun h => ?_)
        | refine g_splitG rfl rfl rfl (fun h => ?_) (fun h => ?_)
        | refine g_splitP rfl rfl (fun h => ?_) (fun h => ?_)
        | refine g_idx T hC (rows := R.map rowR) rfl rfl rfl (Int.natCast_nonneg _) (map_at hr) rfl rfl ?_
        | refine g_idx T hC (rows := [x, y].map intR) rfl rfl rfl (by decide) rfl rfl rfl ?_
      all_goals rw [wrapS (by omega), wrapS (by omega), ← hl1]
      all_goals first
        | refine g_subF 9 rfl (LeS.qq (b' := thereB R a (i + 1)) (by rw [ht1, h]; simp)) ?_
        | refine g_subF 9 rfl (LeS.qb (b' := thereB R a (i + 1)) (by rw [ht1, h]; simp)) ?_
      all_goals exact g_round (i + 1) (by omega) id (by omega) ⟨rfl, ⟨rfl, rfl, rfl, rfl, rfl, rfl, rfl, rfl, rfl, trivial⟩, ⟨rfl, rfl, rfl, rfl, trivial⟩, rfl, fun _ _ => rfl⟩
    · have hl1 : lessN R a (i + 1) = lessN R a i := by rw [hl1, if_neg c1]; rfl
      repeat' first
        | refine g_go T hC true 400 rfl rfl ?_
        | (exact absurd (of_decide_eq_true h) c1)
        | refine g_cond rfl (fun h => ?_) (fun h => ?_)
        | refine g_end T hC (by kernel_rfl) ?_
        | refine g_splitD (fun h => ?_) (fun h => ?_)
        | refine g_splitG rfl rfl rfl (fun h => ?_) (fun h => ?_)
        | refine g_splitP rfl rfl (fun h => ?_) (fun h => ?_)
        | refine g_idx T hC (rows := R.map rowR) rfl rfl rfl (Int.natCast_nonneg _) (map_at hr) rfl rfl ?_
        | refine g_idx T hC (rows := [x, y].map intR) rfl rfl rfl (by decide) rfl rfl rfl ?_
      all_goals rw [wrapS (by omega), ← hl1]
      all_goals first
        | refine g_subF 9 rfl (LeS.qq (b' := thereB R a (i + 1)) (by rw [ht1, h]; simp)) ?_
        | refine g_subF 9 rfl (LeS.qb (b' := thereB R a (i + 1)) (by rw [ht1, h]; simp)) ?_
      all_goals exact g_round (i + 1) (by omega) id (by omega) ⟨rfl, ⟨rfl, rfl, rfl, rfl, rfl, rfl, rfl, rfl, rfl, trivial⟩, ⟨rfl, rfl, rfl, rfl, trivial⟩, rfl, fun _ _ => rfl⟩
  have hge : R.length = i := by have := of_decide_eq_false h; omega
  subst hge
  clear h hi
  rw [lessN_end hT, thereB_end hT]
  rw [hh, hp]
  clear hT
  repeat' first
    | refine g_go T hC true 400 rfl rfl ?_
    | (exfalso; first | (simp only [decide_eq_true_eq, decide_eq_false_iff_not, List.length_map, Bool.not_eq_true', Bool.not_eq_false'] at *; omega) | (simp at h; done))
    | (exfalso; simp at h; done)
    | refine g_cond rfl (fun h => ?_) (fun h => ?_)
    | refine g_end T hC (by kernel_rfl) ?_
    | refine g_splitD (fun h => ?_) (fun h => ?_)
    | refine g_splitG rfl rfl rfl (fun h => ?_) (fun h => ?_)
    | refine g_splitP rfl rfl (fun h => ?_) (fun h => ?_)
    | refine g_outE ?_
    | (rw [hw]; refine g_idx T hC (rows := R.map rowR) rfl rfl rfl (Int.natCast_nonneg _) (map_at hq) rfl rfl ?_)
    | refine g_idx T hC (rows := r.map intR) rfl rfl rfl (by decide) (map_atI hv) rfl rfl ?_
    | refine g_call hC (hY) rfl rfl (LeSs.refl _) rfl rfl rfl ?_
  all_goals exact g_fin ⟨.inl rfl, id, _, rfl, .refl _, trivial, rfl, rfl⟩

theorem rdict2n (R : Rws) (hR : R.length ≤ 500) (hT : TabOk 2 (ltC 1) R) (a : Int) (hh : hasC 1 R [a] = false) : FnOK Tryz.prog 37 [aggS (stR 1 R), aggS [ki 2, intsP [a]]] [] (.tup [aggS (stR 1 R), aggS (rsR (erR 12))]) [] := by
  have hlm : (R.map rowR).length = R.length := List.length_map _
  have hY := fail_ok 1 R 12
  refine fn_ok T Tryz.func37 (by kernel_rfl) rfl rfl rfl rfl fun C hC => ?_
  repeat' first
    | refine g_go T hC true 400 rfl rfl ?_
    | (exfalso; simp at h; done)
    | refine g_cond rfl (fun h => ?_) (fun h => ?_)
    | refine g_end T hC (by kernel_rfl) ?_
    | refine g_splitD (fun h => ?_) (fun h => ?_)
    | refine g_splitG rfl rfl rfl (fun h => ?_) (fun h => ?_)
    | refine g_splitP rfl rfl (fun h => ?_) (fun h => ?_)
    | refine g_idx T hC (rows := [a].map intR) rfl rfl rfl (by decide) rfl rfl rfl ?_
  rw [hlm]
  refine g_sub 9 rfl (LeS.qb rfl) ?_
  refine g_loop (fun i : Nat => i ≤ R.length) (fun i => ([(2, .one (.bx 1002 0)), (3, .one (.bx 1003 0)), (4, .one (.bx 1004 0)), (5, .one (.bx 1005 0)), (6, I R.length), (7, I a), (8, I (lessN R a i)), (9, .bq (thereB R a i)), (10, I i)], [(1002, some (.box [.p (ki 1), .p (rowsP R)])), (1003, some (.box [.p (ki 2), .p (intsP [a])])), (1004, some (.box [.p (ki 0), .p (.k (.slice none 0 0))])), (1005, some (.box [.p (ki 0), .p (ki 0), .p (.k (.slice none 0 0))]))])) (fun i => R.length - i) hC
    0 (Nat.zero_le _) id ⟨rfl, ⟨rfl, rfl, rfl, rfl, rfl, rfl, rfl, rfl, rfl, trivial⟩, ⟨rfl, rfl, rfl, rfl, trivial⟩, rfl, fun _ _ => rfl⟩ ?_
  intro i hi
  refine g_run' T hC true 200 rfl ?_
  refine g_cond rfl (fun h => ?_) (fun h => ?_)
  · have hlt : i < R.length := by simpa using h
    clear h
    obtain ⟨r, hr⟩ := exists_at hlt
    obtain ⟨x, y, rfl⟩ := len2 (hT.wide r (List.mem_of_getElem? hr))
    have hl1 := lessN_succ (k := a) hr
    have ht1 := thereB_succ (k := a) hr
    have hle := lessN_le R a i
    rw [show at0 [x, y] 0 = x from rfl] at hl1 ht1
    by_cases c1 : x < a
    · rw [if_pos c1] at hl1
      repeat' first
        | refine g_go T hC true 400 rfl rfl ?_
        | (exact absurd c1 (of_decide_eq_false h))
        | refine g_cond rfl (fun h => ?_) (fun h => ?_)
        | refine g_end T hC (by kernel_rfl) ?_
        | refine g_splitD (fun h => ?_) (fun h => ?_)
        | refine g_splitG rfl rfl rfl (fun h => ?_) (fun h => ?_)
        | refine g_splitP rfl rfl (fun h => ?_) (fun h => ?_)
        | refine g_idx T hC (rows := R.map rowR) rfl rfl rfl (Int.natCast_nonneg _) (map_at hr) rfl rfl ?_
        | refine g_idx T hC (rows := [x, y].map intR) rfl rfl rfl (by decide) rfl rfl rfl ?_
      all_goals rw [wrapS (by omega), wrapS (by omega), ← hl1]
      all_goals first
        | refine g_subF 9 rfl (LeS.qq (b' := thereB R a (i + 1)) (by rw [ht1, h]; simp)) ?_
        | refine g_subF 9 rfl (LeS.qb (b' := thereB R a (i + 1)) (by rw [ht1, h]; simp)) ?_
      all_goals exact g_round (i + 1) (by omega) id (by omega) ⟨rfl, ⟨rfl, rfl, rfl, rfl, rfl, rfl, rfl, rfl, rfl, trivial⟩, ⟨rfl, rfl, rfl, rfl, trivial⟩, rfl, fun _ _ => rfl⟩
    · have hl1 : lessN R a (i + 1) = lessN R a i := by rw [hl1, if_neg c1]; rfl
      repeat' first
        | refine g_go T hC true 400 rfl rfl ?_
        | (exact absurd (of_decide_eq_true h) c1)
        | refine g_cond rfl (fun h => ?_) (fun h => ?_)
        | refine g_end T hC (by kernel_rfl) ?_
        | refine g_splitD (fun h => ?_) (fun h => ?_)
        | refine g_splitG rfl rfl rfl (fun h => ?_) (fun h => ?_)
        | refine g_splitP rfl rfl (fun h => ?_) (fun h => ?_)
        | refine g_idx T hC (rows := R.map rowR) rfl rfl rfl (Int.natCast_nonneg _) (map_at hr) rfl rfl ?_
        | refine g_idx T hC (rows := [x, y].map intR) rfl rfl rfl (by decide) rfl rfl rfl ?_
      all_goals rw [wrapS (by omega), ← hl1]
      all_goals first
        | refine g_subF 9 rfl (LeS.qq (b' := thereB R a (i + 1)) (by rw [ht1, h]; simp)) ?_
        | refine g_subF 9 rfl (LeS.qb (b' := thereB R a (i + 1)) (by rw [ht1, h]; simp)) ?_
      all_goals exact g_round (i + 1) (by omega) id (by omega) ⟨rfl, ⟨rfl, rfl, rfl, rfl, rfl, rfl, rfl, rfl, rfl, trivial⟩, ⟨rfl, rfl, rfl, rfl, trivial⟩, rfl, fun _ _ => rfl⟩
  have hge : R.length = i := by have := of_decide_eq_false h; omega
  subst hge
  clear h hi
  rw [lessN_end hT, thereB_end hT]
  rw [hh]
  repeat' first
    | refine g_go T hC true 400 rfl rfl ?_
    | (exfalso; simp at h; done)
    | refine g_cond rfl (fun h => ?_) (fun h => ?_)
    | refine g_end T hC (by kernel_rfl) ?_
    | refine g_splitD (fun h => ?_) (fun h => ?_)
    | refine g_splitG rfl rfl rfl (fun h => ?_) (fun h => ?_)
    | refine g_splitP rfl rfl (fun h => ?_) (fun h => ?_)
    | refine g_outE ?_
    | refine g_call hC (hY) rfl rfl (LeSs.refl _) rfl rfl rfl ?_
  all_goals exact g_fin ⟨.inl rfl, id, _, rfl, .refl _, trivial, rfl, rfl⟩

theorem rdict3n (R : Rws) (hR : R.length ≤ 500) (hT : TabOk 2 (ltC 1) R) (a : Int) (hh : hasC 1 R [a] = false) : FnOK Tryz.prog 37 [aggS (stR 1 R), aggS [ki 3, intsP [a]]] [] (.tup [aggS (stR 1 R), aggS (rsR (erR 12))]) [] := by
  have hlm : (R.map rowR).length = R.length := List.length_map _
  have hY := fail_ok 1 R 12
  refine fn_ok T Tryz.func37 (by kernel_rfl) rfl rfl rfl rfl fun C hC => ?_
  repeat' first
    | refine g_go T hC true 400 rfl rfl ?_
    | (exfalso; simp at h; done)
    | refine g_cond rfl (fun h => ?_) (fun h => ?_)
    | refine g_end T hC (by kernel_rfl) ?_
    | refine g_splitD (fun h => ?_) (fun h => ?_)
    | refine g_splitG rfl rfl rfl (fun h => ?_) (fun h => ?_)
    | refine g_splitP rfl rfl (fun h => ?_) (fun h => ?_)
    | refine g_idx T hC (rows := [a].map intR) rfl rfl rfl (by decide) rfl rfl rfl ?_
  rw [hlm]
  refine g_sub 9 rfl (LeS.qb rfl) ?_
  refine g_loop (fun i : Nat => i ≤ R.length) (fun i => ([(2, .one (.bx 1002 0)), (3, .one (.bx 1003 0)), (4, .one (.bx 1004 0)), (5, .one (.bx 1005 0)), (6, I R.length), (7, I a), (8, I (lessN R a i)), (9, .bq (thereB R a i)), (10, I i)], [(1002, some (.box [.p (ki 1), .p (rowsP R)])), (1003, some (.box [.p (ki 3), .p (intsP [a])])), (1004, some (.box [.p (ki 0), .p (.k (.slice none 0 0))])), (1005, some (.box [.p (ki 0), .p (ki 0), .p (.k (.slice none 0 0))]))])) (fun i => R.length - i) hC
    0 (Nat.zero_le _) id ⟨rfl, ⟨rfl, rfl, rfl, rfl, rfl, rfl, rfl, rfl, rfl, trivial⟩, ⟨rfl, rfl, rfl, rfl, trivial⟩, rfl, fun _ _ => rfl⟩ ?_
  intro i hi
  refine g_run' T hC true 200 rfl ?_
  refine g_cond rfl (fun h => ?_) (fun h => ?_)
  · have hlt : i < R.length := by simpa using h
    clear h
    obtain ⟨r, hr⟩ := exists_at hlt
    obtain ⟨x, y, rfl⟩ := len2 (hT.wide r (List.mem_of_getElem? hr))
    have hl1 := lessN_succ (k := a) hr
    have ht1 := thereB_succ (k := a) hr
    have hle := lessN_le R a i
    rw [show at0 [x, y] 0 = x from rfl] at hl1 ht1
    by_cases c1 : x < a
    · rw [if_pos c1] at hl1
      repeat' first
        | refine g_go T hC true 400 rfl rfl ?_
        | (exact absurd c1 (of_decide_eq_false h))
        | refine g_cond rfl (fun h => ?_) (fun h => ?_)
        | refine g_end T hC (by kernel_rfl) ?_
        | refine g_splitD (fun h => ?_) (fun h => ?_)
        | refine g_splitG rfl rfl rfl (fun h => ?_) (fun h => ?_)
        | refine g_splitP rfl rfl (fun h => ?_) (fun h => ?_)
        | refine g_idx T hC (rows := R.map rowR) rfl rfl rfl (Int.natCast_nonneg _) (map_at hr) rfl rfl ?_
        | refine g_idx T hC (rows := [x, y].map intR) rfl rfl rfl (by decide) rfl rfl rfl ?_
      all_goals rw [wrapS (by omega), wrapS (by omega), ← hl1]
      all_goals first
        | refine g_subF 9 rfl (LeS.qq (b' := thereB R a (i + 1)) (by rw [ht1, h]; simp)) ?_
        | refine g_subF 9 rfl (LeS.qb (b' := thereB R a (i + 1)) (by rw [ht1, h]; simp)) ?_
      all_goals exact g_round (i + 1) (by omega) id (by omega) ⟨rfl, ⟨rfl, rfl, rfl, rfl, rfl, rfl, rfl, rfl, rfl, trivial⟩, ⟨rfl, rfl, rfl, rfl, trivial⟩, rfl, fun _ _ => rfl⟩
    · have hl1 : lessN R a (i + 1) = lessN R a i := by rw [hl1, if_neg c1]; rfl
      repeat' first
        | refine g_go T hC true 400 rfl rfl ?_
        | (exact absurd (of_decide_eq_true h) c1)
        | refine g_cond rfl (fun h => ?_) (fun h => ?_)
        | refine g_end T hC (by kernel_rfl) ?_
        | refine g_splitD (fun h => ?_) (fun h => ?_)
        | refine g_splitG rfl rfl rfl (fun h => ?_) (fun h => ?_)
        | refine g_splitP rfl rfl (fun h => ?_) (fun h => ?_)
        | refine g_idx T hC (rows := R.map rowR) rfl rfl rfl (Int.natCast_nonneg _) (map_at hr) rfl rfl ?_
        | refine g_idx T hC (rows := [x, y].map intR) rfl rfl rfl (by decide) rfl rfl rfl ?_
      all_goals rw [wrapS (by omega), ← hl1]
      all_goals first
        | refine g_subF 9 rfl (LeS.qq (b' := thereB R a (i + 1)) (by rw [ht1, h]; simp)) ?_
        | refine g_subF 9 rfl (LeS.qb (b' := thereB R a (i + 1)) (by rw [ht1, h]; simp)) ?_
      all_goals exact g_round (i + 1) (by omega) id (by omega) ⟨rfl, ⟨rfl, rfl, rfl, rfl, rfl, rfl, rfl, rfl, rfl, trivial⟩, ⟨rfl, rfl, rfl, rfl, trivial⟩, rfl, fun _ _ => rfl⟩
  have hge : R.length = i := by have := of_decide_eq_false h; omega
  subst hge
  clear h hi
  rw [lessN_end hT, thereB_end hT]
  rw [hh]
  repeat' first
    | refine g_go T hC true 400 rfl rfl ?_
    | (exfalso; simp at h; done)
    | refine g_cond rfl (fun h => ?_) (fun h => ?_)
    | refine g_end T hC (by kernel_rfl) ?_
    | refine g_splitD (fun h => ?_) (fun h => ?_)
    | refine g_splitG rfl rfl rfl (fun h => ?_) (fun h => ?_)
    | refine g_splitP rfl rfl (fun h => ?_) (fun h => ?_)
    | refine g_outE ?_
    | refine g_call hC (hY) rfl rfl (LeSs.refl _) rfl rfl rfl ?_
  all_goals exact g_fin ⟨.inl rfl, id, _, rfl, .refl _, trivial, rfl, rfl⟩

theorem rdict2 (R : Rws) (hR : R.length ≤ 500) (hT : TabOk 2 (ltC 1) R) (a : Int) (hh : hasC 1 R [a] = true) (p : Nat) (hp : posC 1 R [a] = p) (hpl : p < R.length) (r : Rw) (v : Int) (hq : R[p]? = some r) (hv : r[1]? = some v) : FnOK Tryz.prog 37 [aggS (stR 1 R), aggS [ki 2, intsP [a]]] [] (.tup [aggS (stR 1 R), aggS (rsR (okR v))]) [] := by
  have hlm : (R.map rowR).length = R.length := List.length_map _
  have hY := yield_ok 1 R v
  refine fn_ok T Tryz.func37 (by kernel_rfl) rfl rfl rfl rfl fun C hC => ?_
  repeat' first
    | refine g_go T hC true 400 rfl rfl ?_
    | (exfalso; simp at h; done)
    | refine g_cond rfl (fun h => ?_) (fun h => ?_)
    | refine g_end T hC (by kernel_rfl) ?_
    | refine g_splitD (fun h => ?_) (fun h => ?_)
    | refine g_splitG rfl rfl rfl (fun h => ?_) (fun h => ?_)
    | refine g_splitP rfl rfl (fun h => ?_) (fun h => ?_)
    | refine g_idx T hC (rows := [a].map intR) rfl rfl rfl (by decide) rfl rfl rfl ?_
  rw [hlm]
  refine g_sub 9 rfl (LeS.qb rfl) ?_
  refine g_loop (fun i : Nat => i ≤ R.length) (fun i => ([(2, .one (.bx 1002 0)), (3, .one (.bx 1003 0)), (4, .one (.bx 1004 0)), (5, .one (.bx 1005 0)), (6, I R.length), (7, I a), (8, I (lessN R a i)), (9, .bq (thereB R a i)), (10, I i)], [(1002, some (.box [.p (ki 1), .p (rowsP R)])), (1003, some (.box [.p (ki 2), .p (intsP [a])])), (1004, some (.box [.p (ki 0), .p (.k (.slice none 0 0))])), (1005, some (.box [.p (ki 0), .p (ki 0), .p (.k (.slice none 0 0))]))])) (fun i => R.length - i) hC
    0 (Nat.zero_le _) id ⟨rfl, ⟨rfl, rfl, rfl, rfl, rfl, rfl, rfl, rfl, rfl, trivial⟩, ⟨rfl, rfl, rfl, rfl, trivial⟩, rfl, fun _ _ => rfl⟩ ?_
  intro i hi
  refine g_run' T hC true 200 rfl ?_
  refine g_cond rfl (fun h => ?_) (fun h => ?_)
  · have hlt : i < R.length := by simpa using h
    clear h
    obtain ⟨r, hr⟩ := exists_at hlt
    obtain ⟨x, y, rfl⟩ := len2 (hT.wide r (List.mem_of_getElem? hr))
    have hl1 := lessN_succ (k := a) hr
    have ht1 := thereB_succ (k := a) hr
    have hle := lessN_le R a i
    rw [show at0 [x, y] 0 = x from rfl] at hl1 ht1
    by_cases c1 : x < a
    · rw [if_pos c1] at hl1
      repeat' first
        | refine g_go T hC true 400 rfl rfl ?_
        | (exact absurd c1 (of_decide_eq_false h))
        | refine g_cond rfl (fun h => ?_) (fun h => ?_)
        | refine g_end T hC (by kernel_rfl) ?_
        | refine g_splitD (fun h => ?_) (fun h => ?_)
        | refine g_splitG rfl rfl rfl (fun h => ?_) (fun h => ?_)
        | refine g_splitP rfl rfl (fun h => ?_) (fun h => ?_)
        | refine g_idx T hC (rows := R.map rowR) rfl rfl rfl (Int.natCast_nonneg _) (map_at hr) rfl rfl ?_
        | refine g_idx T hC (rows := [x, y].map intR) rfl rfl rfl (by decide) rfl rfl rfl ?_
      all_goals rw [wrapS (by omega), wrapS (by omega), ← hl1]
      all_goals first
        | refine g_subF 9 rfl (LeS.qq (b' := thereB R a (i + 1)) (by rw [ht1, h]; simp)) ?_
        | refine g_subF 9 rfl (LeS.qb (b' := thereB R a (i + 1)) (by rw [ht1, h]; simp)) ?_
      all_goals exact g_round (i + 1) (by omega) id (by omega) ⟨rfl, ⟨rfl, rfl, rfl, rfl, rfl, rfl, rfl, rfl, rfl, trivial⟩, ⟨rfl, rfl, rfl, rfl, trivial⟩, rfl, fun _ _ => rfl⟩
    · have hl1 : lessN R a (i + 1) = lessN R a i := by rw [hl1, if_neg c1]; rfl
      repeat' first
        | refine g_go T hC true 400 rfl rfl ?_
        | (exact absurd (of_decide_eq_true h) c1)
        | refine g_cond rfl (fun h => ?_) (fun h => ?_)
        | refine g_end T hC (by kernel_rfl) ?_
        | refine g_splitD (fun h => ?_) (fun h => ?_)
        | refine g_splitG rfl rfl rfl (fun h => ?_) (fun h => ?_)
        | refine g_splitP rfl rfl (fun h => ?_) (fun h => ?_)
        | refine g_idx T hC (rows := R.map rowR) rfl rfl rfl (Int.natCast_nonneg _) (map_at hr) rfl rfl ?_
        | refine g_idx T hC (rows := [x, y].map intR) rfl rfl rfl (by decide) rfl rfl rfl ?_
      all_goals rw [wrapS (by omega), ← hl1]
      all_goals first
        | refine g_subF 9 rfl (LeS.qq (b' := thereB R a (i + 1)) (by rw [ht1, h]; simp)) ?_
        | refine g_subF 9 rfl (LeS.qb (b' := thereB R a (i + 1)) (by rw [ht1, h]; simp)) ?_
      all_goals exact g_round (i + 1) (by omega) id (by omega) ⟨rfl, ⟨rfl, rfl, rfl, rfl, rfl, rfl, rfl, rfl, rfl, trivial⟩, ⟨rfl, rfl, rfl, rfl, trivial⟩, rfl, fun _ _ => rfl⟩
  have hge : R.length = i := by have := of_decide_eq_false h; omega
  subst hge
  clear h hi
  rw [lessN_end hT, thereB_end hT]
  rw [hh, hp]
  repeat' first
    | refine g_go T hC true 400 rfl rfl ?_
    | (exfalso; simp at h; done)
    | refine g_cond rfl (fun h => ?_) (fun h => ?_)
    | refine g_end T hC (by kernel_rfl) ?_
    | refine g_splitD (fun h => ?_) (fun h => ?_)
    | refine g_splitG rfl rfl rfl (fun h => ?_) (fun h => ?_)
    | refine g_splitP rfl rfl (fun h => ?_) (fun h => ?_)
    | refine g_outE ?_
    | refine g_idx T hC (rows := R.map rowR) rfl rfl rfl (Int.natCast_nonneg _) (map_at hq) rfl rfl ?_
    | refine g_idx T hC (rows := r.map intR) rfl rfl rfl (by decide) (map_atI hv) rfl rfl ?_
    | refine g_call hC (hY) rfl rfl (LeSs.refl _) rfl rfl rfl ?_
  all_goals exact g_fin ⟨.inl rfl, id, _, rfl, .refl _, trivial, rfl, rfl⟩

theorem rdict3 (R : Rws) (hR : R.length ≤ 500) (hT : TabOk 2 (ltC 1) R) (a : Int) (hh : hasC 1 R [a] = true) (p : Nat) (hp : posC 1 R [a] = p) (hpl : p < R.length) (r : Rw) (v : Int) (hq : R[p]? = some r) (hv : r[1]? = some v) : FnOK Tryz.prog 37 [aggS (stR 1 R), aggS [ki 3, intsP [a]]] [] (.tup [aggS (stR 1 (R.eraseIdx p)), aggS (rsR (okR v))]) [] := by
  have hlm : (R.map rowR).length = R.length := List.length_map _
  have hY := yield_ok 1 (R.eraseIdx p) v
  have hX := cut_ok R (by omega) p hpl
  refine fn_ok T Tryz.func37 (by kernel_rfl) rfl rfl rfl rfl fun C hC => ?_
  repeat' first
    | refine g_go T hC true 400 rfl rfl ?_
    | (exfalso; simp at h; done)
    | refine g_cond rfl (fun h => ?_) (fun h => ?_)
    | refine g_end T hC (by kernel_rfl) ?_
    | refine g_splitD (fun h => ?_) (fun h => ?_)
    | refine g_splitG rfl rfl rfl (fun h => ?_) (fun h => ?_)
    | refine g_splitP rfl rfl (fun h => ?_) (fun h => ?_)
    | refine g_idx T hC (rows := [a].map intR) rfl rfl rfl (by decide) rfl rfl rfl ?_
  rw [hlm]
  refine g_sub 9 rfl (LeS.qb rfl) ?_
  refine g_loop (fun i : Nat => i ≤ R.length) (fun i => ([(2, .one (.bx 1002 0)), (3, .one (.bx 1003 0)), (4, .one (.bx 1004 0)), (5, .one (.bx 1005 0)), (6, I R.length), (7, I a), (8, I (lessN R a i)), (9, .bq (thereB R a i)), (10, I i)], [(1002, some (.box [.p (ki 1), .p (rowsP R)])), (1003, some (.box [.p (ki 3), .p (intsP [a])])), (1004, some (.box [.p (ki 0), .p (.k (.slice none 0 0))])), (1005, some (.box [.p (ki 0), .p (ki 0), .p (.k (.slice none 0 0))]))])) (fun i => R.length - i) hC
    0 (Nat.zero_le _) id ⟨rfl, ⟨rfl, rfl, rfl, rfl, rfl, rfl, rfl, rfl, rfl, trivial⟩, ⟨rfl, rfl, rfl, rfl, trivial⟩, rfl, fun _ _ => rfl⟩ ?_
  intro i hi
  refine g_run' T hC true 200 rfl ?_
  refine g_cond rfl (fun h => ?_) (fun h => ?_)
  · have hlt : i < R.length := by simpa using h
    clear h
    obtain ⟨r, hr⟩ := exists_at hlt
    obtain ⟨x, y, rfl⟩ := len2 (hT.wide r (List.mem_of_getElem? hr))
    have hl1 := lessN_succ (k := a) hr
    have ht1 := thereB_succ (k := a) hr
    have hle := lessN_le R a i
    rw [show at0 [x, y] 0 = x from rfl] at hl1 ht1
    by_cases c1 : x < a
    · rw [if_pos c1] at hl1
      repeat' first
        | refine g_go T hC true 400 rfl rfl ?_
        | (exact absurd c1 (of_decide_eq_false h))
        | refine g_cond rfl (fun h => ?_) (fun h => ?_)
        | refine g_end T hC (by kernel_rfl) ?_
        | refine g_splitD (fun h => ?_) (fun h => ?_)
        | refine g_splitG rfl rfl rfl (fun h => ?_) (fun h => ?_)
        | refine g_splitP rfl rfl (fun h => ?_) (fun h => ?_)
        | refine g_idx T hC (rows := R.map rowR) rfl rfl rfl (Int.natCast_nonneg _) (map_at hr) rfl rfl ?_
        | refine g_idx T hC (rows := [x, y].map intR) rfl rfl rfl (by decide) rfl rfl rfl ?_
      all_goals rw [wrapS (by omega), wrapS (by omega), ← hl1]
      all_goals first
        | refine g_subF 9 rfl (LeS.qq (b' := thereB R a (i + 1)) (by rw [ht1, h]; simp)) ?_
        | refine g_subF 9 rfl (LeS.qb (b' := thereB R a (i + 1)) (by rw [ht1, h]; simp)) ?_
      all_goals exact g_round (i + 1) (by omega) id (by omega) ⟨rfl, ⟨rfl, rfl, rfl, rfl, rfl, rfl, rfl, rfl, rfl, trivial⟩, ⟨rfl, rfl, rfl, rfl, trivial⟩, rfl, fun _ _ => rfl⟩
    · have hl1 : lessN R a (i + 1) = lessN R a i := by rw [hl1, if_neg c1]; rfl
      repeat' first
        | refine g_go T hC true 400 rfl rfl ?_
        | (exact absurd (of_decide_eq_true h) c1)
        | refine g_cond rfl (fun h => ?_) (fun h => ?_)
        | refine g_end T hC (by kernel_rfl) ?_
        | refine g_splitD (fun h => ?_) (fun h => ?_)
        | refine g_splitG rfl rfl rfl (fun h => ?_) (fun h => ?_)
        | refine g_splitP rfl rfl (fun h => ?_) (fun h => ?_)
        | refine g_idx T hC (rows := R.map rowR) rfl rfl rfl (Int.natCast_nonneg _) (map_at hr) rfl rfl ?_
        | refine g_idx T hC (rows := [x, y].map intR) rfl rfl rfl (by decide) rfl rfl rfl ?_
      all_goals rw [wrapS (by omega), ← hl1]
      all_goals first
        | refine g_subF 9 rfl (LeS.qq (b' := thereB R a (i + 1)) (by rw [ht1, h]; simp)) ?_
        | refine g_subF 9 rfl (LeS.qb (b' := thereB R a (i + 1)) (by rw [ht1, h]; simp)) ?_
      all_goals exact g_round (i + 1) (by omega) id (by omega) ⟨rfl, ⟨rfl, rfl, rfl, rfl, rfl, rfl, rfl, rfl, rfl, trivial⟩, ⟨rfl, rfl, rfl, rfl, trivial⟩, rfl, fun _ _ => rfl⟩
  have hge : R.length = i := by have := of_decide_eq_false h; omega
  subst hge
  clear h hi
  rw [lessN_end hT, thereB_end hT]
  rw [hh, hp]
  repeat' first
    | refine g_go T hC true 400 rfl rfl ?_
    | (exfalso; simp at h; done)
    | refine g_cond rfl (fun h => ?_) (fun h => ?_)
    | refine g_end T hC (by kernel_rfl) ?_
    | refine g_splitD (fun h => ?_) (fun h => ?_)
    | refine g_splitG rfl rfl rfl (fun h => ?_) (fun h => ?_)
    | refine g_splitP rfl rfl (fun h => ?_) (fun h => ?_)
    | refine g_outE ?_
    | refine g_idx T hC (rows := R.map rowR) rfl rfl rfl (Int.natCast_nonneg _) (map_at hq) rfl rfl ?_
    | refine g_idx T hC (rows := r.map intR) rfl rfl rfl (by decide) (map_atI hv) rfl rfl ?_
    | refine g_call hC (hX) rfl rfl (LeSs.refl _) rfl rfl rfl ?_
    | refine g_call hC (hY) rfl rfl (LeSs.refl _) rfl rfl rfl ?_
  all_goals exact g_fin ⟨.inl rfl, id, _, rfl, .refl _, trivial, rfl, rfl⟩

theorem rdict1f (R : Rws) (hR : R.length ≤ 500) (hT : TabOk 2 (ltC 1) R) (a b : Int) (hh : hasC 1 R [a] = false) (h5 : R.length = 500) : FnOK Tryz.prog 37 [aggS (stR 1 R), aggS [ki 1, intsP [a, b]]] [] (.tup [aggS (stR 1 R), aggS (rsR (erR 4))]) [] := by
  have hlm : (R.map rowR).length = R.length := List.length_map _
  have hY := fail_ok 1 R 4
  refine fn_ok T Tryz.func37 (by kernel_rfl) rfl rfl rfl rfl fun C hC => ?_
  repeat' first
    | refine g_go T hC true 400 rfl rfl ?_
    | (exfalso; simp at h; done)
    | refine g_cond rfl (fun h => ?_) (fun h => ?_)
    | refine g_end T hC (by kernel_rfl) ?_
    | refine g_splitD (fun h => ?_) (fun h => ?_)
    | refine g_splitG rfl rfl rfl (fun h => ?_) (fun h => ?_)
    | refine g_splitP rfl rfl (fun h => ?_) (fun h => ?_)
    | refine g_idx T hC (rows := [a, b].map intR) rfl rfl rfl (by decide) rfl rfl rfl ?_
  rw [hlm]
  refine g_sub 9 rfl (LeS.qb rfl) ?_
  refine g_loop (fun i : Nat => i ≤ R.length) (fun i => ([(2, .one (.bx 1002 0)), (3, .one (.bx 1003 0)), (4, .one (.bx 1004 0)), (5, .one (.bx 1005 0)), (6, I R.length), (7, I a), (8, I (lessN R a i)), (9, .bq (thereB R a i)), (10, I i)], [(1002, some (.box [.p (ki 1), .p (rowsP R)])), (1003, some (.box [.p (ki 1), .p (intsP [a, b])])), (1004, some (.box [.p (ki 0), .p (.k (.slice none 0 0))])), (1005, some (.box [.p (ki 0), .p (ki 0), .p (.k (.slice none 0 0))]))])) (fun i => R.length - i) hC
    0 (Nat.zero_le _) id ⟨rfl, ⟨rfl, rfl, rfl, rfl, rfl, rfl, rfl, rfl, rfl, trivial⟩, ⟨rfl, rfl, rfl, rfl, trivial⟩, rfl, fun _ _ => rfl⟩ ?_
  intro i hi
  refine g_run' T hC true 200 rfl ?_
  refine g_cond rfl (fun h => ?_) (fun h => ?_)
  · have hlt : i < R.length := by simpa using h
    clear h
    obtain ⟨r, hr⟩ := exists_at hlt
    obtain ⟨x, y, rfl⟩ := len2 (hT.wide r (List.mem_of_getElem? hr))
    have hl1 := lessN_succ (k := a) hr
    have ht1 := thereB_succ (k := a) hr
    have hle := lessN_le R a i
    rw [show at0 [x, y] 0 = x from rfl] at hl1 ht1
    by_cases c1 : x < a
    · rw [if_pos c1] at hl1
      repeat' first
        | refine g_go T hC true 400 rfl rfl ?_
        | (exact absurd c1 (of_decide_eq_false h))
        | refine g_cond rfl (fun h => ?_) (fun h => ?_)
        | refine g_end T hC (by kernel_rfl) ?_
        | refine g_splitD (fun h => ?_) (fun h => ?_)
        | refine g_splitG rfl rfl rfl (fun h => ?_) (fun h => ?_)
        | refine g_splitP rfl rfl (fun h => ?_) (fun h => ?_)
        | refine g_idx T hC (rows := R.map rowR) rfl rfl rfl (Int.natCast_nonneg _) (map_at hr) rfl rfl ?_
        | refine g_idx T hC (rows := [x, y].map intR) rfl rfl rfl (by decide) rfl rfl rfl ?_
      all_goals rw [wrapS (by omega), wrapS (by omega), ← hl1]
      all_goals first
        | refine g_subF 9 rfl (LeS.qq (b' := thereB R a (i + 1)) (by rw [ht1, h]; simp)) ?_
        | refine g_subF 9 rfl (LeS.qb (b' := thereB R a (i + 1)) (by rw [ht1, h]; simp)) ?_
      all_goals exact g_round (i + 1) (by omega) id (by omega) ⟨rfl, ⟨rfl, rfl, rfl, rfl, rfl, rfl, rfl, rfl, rfl, trivial⟩, ⟨rfl, rfl, rfl, rfl, trivial⟩, rfl, fun _ _ => rfl⟩
    · have hl1 : lessN R a (i + 1) = lessN R a i := by rw [hl1, if_neg c1]; rfl
      repeat' first
        | refine g_go T hC true 400 rfl rfl ?_
        | (exact absurd (of_decide_eq_true h) c1)
        | refine g_cond rfl (fun h => ?_) (fun h => ?_)
        | refine g_end T hC (by kernel_rfl) ?_
        | refine g_splitD (fun h => ?_) (fun h => ?_)
        | refine g_splitG rfl rfl rfl (fun h => ?_) (fun h => ?_)
        | refine g_splitP rfl rfl (fun h => ?_) (fun h => ?_)
        | refine g_idx T hC (rows := R.map rowR) rfl rfl rfl (Int.natCast_nonneg _) (map_at hr) rfl rfl ?_
        | refine g_idx T hC (rows := [x, y].map intR) rfl rfl rfl (by decide) rfl rfl rfl ?_
      all_goals rw [wrapS (by omega), ← hl1]
      all_goals first
        | refine g_subF 9 rfl (LeS.qq (b' := thereB R a (i + 1)) (by rw [ht1, h]; simp)) ?_
        | refine g_subF 9 rfl (LeS.qb (b' := thereB R a (i + 1)) (by rw [ht1, h]; simp)) ?_
      all_goals exact g_round (i + 1) (by omega) id (by omega) ⟨rfl, ⟨rfl, rfl, rfl, rfl, rfl, rfl, rfl, rfl, rfl, trivial⟩, ⟨rfl, rfl, rfl, rfl, trivial⟩, rfl, fun _ _ => rfl⟩
  have hge : R.length = i := by have := of_decide_eq_false h; omega
  subst hge
  clear h hi
  rw [lessN_end hT, thereB_end hT]
  rw [hh]
  clear hT
  repeat' first
    | refine g_go T hC true 400 rfl rfl ?_
    | (exfalso; first | (simp only [decide_eq_true_eq, decide_eq_false_iff_not, List.length_map, Bool.not_eq_true', Bool.not_eq_false'] at *; omega) | (simp at h; done))
    | (exfalso; simp at h; done)
    | refine g_cond rfl (fun h => ?_) (fun h => ?_)
    | refine g_end T hC (by kernel_rfl) ?_
    | refine g_splitD (fun h => ?_) (fun h => ?_)
    | refine g_splitG rfl rfl rfl (fun h => ?_) (fun h => ?_)
    | refine g_splitP rfl rfl (fun h => ?_) (fun h => ?_)
    | refine g_outE ?_
    | refine g_call hC (hY) rfl rfl (LeSs.refl _) rfl rfl rfl ?_
  all_goals exact g_fin ⟨.inl rfl, id, _, rfl, .refl _, trivial, rfl, rfl⟩

theorem rdict1 (R : Rws) (hR : R.length ≤ 500) (hT : TabOk 2 (ltC 1) R) (a b : Int) (hh : hasC 1 R [a] = false) (p : Nat) (hp : posC 1 R [a] = p) (hpl : p ≤ R.length) (h5 : R.length < 500) : FnOK Tryz.prog 37 [aggS (stR 1 R), aggS [ki 1, intsP [a, b]]] [] (.tup [aggS (stR 1 (insR R p [a, b])), aggS (rsR (okR 0))]) [] := by
  have hlm : (R.map rowR).length = R.length := List.length_map _
  have hY := yield_ok 1 (insR R p [a, b]) 0
  have hX := put_ok R (by omega) p hpl [a, b]
  refine fn_ok T Tryz.func37 (by kernel_rfl) rfl rfl rfl rfl fun C hC => ?_
  repeat' first
    | refine g_go T hC true 400 rfl rfl ?_
    | (exfalso; simp at h; done)
    | refine g_cond rfl (fun h => ?_) (fun h => ?_)
    | refine g_end T hC (by kernel_rfl) ?_
    | refine g_splitD (fun h => ?_) (fun h => ?_)
    | refine g_splitG rfl rfl rfl (fun h => ?_) (fun h => ?_)
    | refine g_splitP rfl rfl (fun h => ?_) (fun h => ?_)
    | refine g_idx T hC (rows := [a, b].map intR) rfl rfl rfl (by decide) rfl rfl rfl ?_
  rw [hlm]
  refine g_sub 9 rfl (LeS.qb rfl) ?_
  refine g_loop (fun i : Nat => i ≤ R.length) (fun i => ([(2, .one (.bx 1002 0)), (3, .one (.bx 1003 0)), (4, .one (.bx 1004 0)), (5, .one (.bx 1005 0)), (6, I R.length), (7, I a), (8, I (lessN R a i)), (9, .bq (thereB R a i)), (10, I i)], [(1002, some (.box [.p (ki 1), .p (rowsP R)])), (1003, some (.box [.p (ki 1), .p (intsP [a, b])])), (1004, some (.box [.p (ki 0), .p (.k (.slice none 0 0))])), (1005, some (.box [.p (ki 0), .p (ki 0), .p (.k (.slice none 0 0))]))])) (fun i => R.length - i) hC
    0 (Nat.zero_le _) id ⟨rfl, ⟨rfl, rfl, rfl, rfl, rfl, rfl, rfl, rfl, rfl, trivial⟩, ⟨rfl, rfl, rfl, rfl, trivial⟩, rfl, fun _ _ => rfl⟩ ?_
  intro i hi
  refine g_run' T hC true 200 rfl ?_
  refine g_cond rfl (fun h => ?_) (fun h => ?_)
  · have hlt : i < R.length := by simpa using h
    clear h
    obtain ⟨r, hr⟩ := exists_at hlt
    obtain ⟨x, y, rfl⟩ := len2 (hT.wide r (List.mem_of_getElem? hr))
    have hl1 := lessN_succ (k := a) hr
    have ht1 := thereB_succ (k := a) hr
    have hle := lessN_le R a i
    rw [show at0 [x, y] 0 = x from rfl] at hl1 ht1
    by_cases c1 : x < a
    · rw [if_pos c1] at hl1
      repeat' first
        | refine g_go T hC true 400 rfl rfl ?_
        | (exact absurd c1 (of_decide_eq_false h))
        | refine g_cond rfl (fun h => ?_) (fun h => ?_)
        | refine g_end T hC (by kernel_rfl) ?_
        | refine g_splitD (fun h => ?_) (fun h => ?_)
        | refine g_splitG rfl rfl rfl (fun h => ?_) (fun h => ?_)
        | refine g_splitP rfl rfl (fun h => ?_) (fun h => ?_)
        | refine g_idx T hC (rows := R.map rowR) rfl rfl rfl (Int.natCast_nonneg _) (map_at hr) rfl rfl ?_
        | refine g_idx T hC (rows := [x, y].map intR) rfl rfl rfl (by decide) rfl rfl rfl ?_
      all_goals rw [wrapS (by omega), wrapS (by omega), ← hl1]
      all_goals first
        | refine g_subF 9 rfl (LeS.qq (b' := thereB R a (i + 1)) (by rw [ht1, h]; simp)) ?_
        | refine g_subF 9 rfl (LeS.qb (b' := thereB R a (i + 1)) (by rw [ht1, h]; simp)) ?_
      all_goals exact g_round (i + 1) (by omega) id (by omega) ⟨rfl, ⟨rfl, rfl, rfl, rfl, rfl, rfl, rfl, rfl, rfl, trivial⟩, ⟨rfl, rfl, rfl, rfl, trivial⟩, rfl, fun _ _ => rfl⟩
    · have hl1 : lessN R a (i + 1) = lessN R a i := by rw [hl1, if_neg c1]; rfl
      repeat' first
        | refine g_go T hC true 400 rfl rfl ?_
        | (exact absurd (of_decide_eq_true h) c1)
        | refine g_cond rfl (fun h => ?_) (fun h => ?_)
        | refine g_end T hC (by kernel_rfl) ?_
        | refine g_splitD (fun h => ?_) (fun h => ?_)
        | refine g_splitG rfl rfl rfl (fun h => ?_) (fun h => ?_)
        | refine g_splitP rfl rfl (fun h => ?_) (fun h => ?_)
        | refine g_idx T hC (rows := R.map rowR) rfl rfl rfl (Int.natCast_nonneg _) (map_at hr) rfl rfl ?_
        | refine g_idx T hC (rows := [x, y].map intR) rfl rfl rfl (by decide) rfl rfl rfl ?_
      all_goals rw [wrapS (by omega), ← hl1]
      all_goals first
        | refine g_subF 9 rfl (LeS.qq (b' := thereB R a (i + 1)) (by rw [ht1, h]; simp)) ?_
        | refine g_subF 9 rfl (LeS.qb (b' := thereB R a (i + 1)) (by rw [ht1, h]; simp)) ?_
      all_goals exact g_round (i + 1) (by omega) id (by omega) ⟨rfl, ⟨rfl, rfl, rfl, rfl, rfl, rfl, rfl, rfl, rfl, trivial⟩, ⟨rfl, rfl, rfl, rfl, trivial⟩, rfl, fun _ _ => rfl⟩
  have hge : R.length = i := by have := of_decide_eq_false h; omega
  subst hge
  clear h hi
  rw [lessN_end hT, thereB_end hT]
  rw [hh, hp]
  clear hT
  repeat' first
    | refine g_go T hC true 400 rfl rfl ?_
    | (exfalso; first | (simp only [decide_eq_true_eq, decide_eq_false_iff_not, List.length_map, Bool.not_eq_true', Bool.not_eq_false'] at *; omega) | (simp at h; done))
    | (exfalso; simp at h; done)
    | refine g_cond rfl (fun h => ?_) (fun h => ?_)
    | refine g_end T hC (by kernel_rfl) ?_
    | refine g_splitD (fun h => ?_) (fun h => ?_)
    | refine g_splitG rfl rfl rfl (fun h => ?_) (fun h => ?_)
    | refine g_splitP rfl rfl (fun h => ?_) (fun h => ?_)
    | refine g_outE ?_
    | refine g_idx T hC (rows := [a, b].map intR) rfl rfl rfl (by decide) rfl rfl rfl ?_
    | refine g_lit T hC rfl rfl rfl rfl rfl rfl rfl rfl rfl ?_
    | refine g_call hC (hX) rfl rfl (LeSs.refl _) rfl rfl rfl ?_
    | refine g_call hC (hY) rfl rfl (LeSs.refl _) rfl rfl rfl ?_
  all_goals exact g_fin ⟨.inl rfl, id, _, rfl, .refl _, trivial, rfl, rfl⟩
end Hw.Mz
namespace Hw.Mz
open Go Go.Proofs Go.Shelf Hw.M

/-! models: the reference's dictionaries: a value that is put anew; joined -/
theorem rdict1y (R : Rws) (hR : R.length ≤ 500) (hT : TabOk 2 (ltC 1) R) (a b : Int) (hh : hasC 1 R [a] = true) (p : Nat) (hp : posC 1 R [a] = p) (hpl : p < R.length) (r : Rw) (hq : R[p]? = some r) (hrl : r.length = 2) :
    FnOK Tryz.prog 37 [.agg [.p (ki 1), .ar 0], aggS [ki 1, intsP [a, b]]] [(0, vg 1 R.length), (1, bg R)] (.tup [aggS (stR 1 (R.set p (r.set 1 b))), aggS (rsR (okR 1))]) [] := by
  have hY := yield_ok 1 (R.set p (r.set 1 b)) 1
  refine fn_ok T Tryz.func37 (by kernel_rfl) rfl rfl rfl rfl fun C hC => ?_
  repeat' first
    | refine g_go T hC true 400 rfl rfl ?_
    | (exfalso; simp at h; done)
    | refine g_cond rfl (fun h => ?_) (fun h => ?_)
    | refine g_end T hC (by kernel_rfl) ?_
    | refine g_splitD (fun h => ?_) (fun h => ?_)
    | refine g_splitG rfl rfl rfl (fun h => ?_) (fun h => ?_)
    | refine g_splitP rfl rfl (fun h => ?_) (fun h => ?_)
    | refine g_idx T hC (rows := [a, b].map intR) rfl rfl rfl (by decide) rfl rfl rfl ?_
    | refine g_lenG T hC rfl rfl rfl rfl rfl rfl ?_
  refine g_sub 9 rfl (LeS.qb rfl) ?_
  refine g_loop (fun i : Nat => i ≤ R.length) (fun i => ([(2, .one (.bx 1002 0)), (3, .one (.bx 1003 0)), (4, .one (.bx 1004 0)), (5, .one (.bx 1005 0)), (6, I R.length), (7, I a), (8, I (lessN R a i)), (9, .bq (thereB R a i)), (10, I i)], [(0, some (vg 1 R.length)), (1, some (bg R)), (1002, some (.box [.p (ki 1), .ar 0])), (1003, some (.box [.p (ki 1), .p (intsP [a, b])])), (1004, some (.box [.p (ki 0), .p (.k (.slice none 0 0))])), (1005, some (.box [.p (ki 0), .p (ki 0), .p (.k (.slice none 0 0))]))])) (fun i => R.length - i) hC
    0 (Nat.zero_le _) id ⟨rfl, ⟨rfl, rfl, rfl, rfl, rfl, rfl, rfl, rfl, rfl, trivial⟩, ⟨rfl, rfl, rfl, rfl, rfl, rfl, trivial⟩, rfl, fun _ _ => rfl⟩ ?_
  intro i hi
  refine g_run' T hC true 200 rfl ?_
  refine g_cond rfl (fun h => ?_) (fun h => ?_)
  · have hlt : i < R.length := by simpa using h
    clear h
    obtain ⟨r, hr⟩ := exists_at hlt
    obtain ⟨x, y, rfl⟩ := len2 (hT.wide r (List.mem_of_getElem? hr))
    have hl1 := lessN_succ (k := a) hr
    have ht1 := thereB_succ (k := a) hr
    have hle := lessN_le R a i
    rw [show at0 [x, y] 0 = x from rfl] at hl1 ht1
    have hv : [x, y][0]? = some x := rfl
    by_cases c1 : x < a
    · rw [if_pos c1] at hl1
      repeat' first
        | refine g_go T hC true 400 rfl rfl ?_
        | (exact absurd c1 (of_decide_eq_false h))
        | refine g_cond rfl (fun h => ?_) (fun h => ?_)
        | refine g_end T hC (by kernel_rfl) ?_
        | refine g_splitD (fun h => ?_) (fun h => ?_)
        | refine g_splitG rfl rfl rfl (fun h => ?_) (fun h => ?_)
        | refine g_splitP rfl rfl (fun h => ?_) (fun h => ?_)
        | (refine g_idxR T hC i rfl rfl rfl rfl rfl (by omega) rfl rfl ?_; refine g_loadR T hC rfl rfl rfl (by omega) rfl rfl ?_)
        | (refine g_idxC T hC 0 hr (by simp) rfl rfl rfl rfl rfl rfl ?_; refine g_loadC T hC hr hv rfl rfl rfl rfl rfl ?_)
      all_goals rw [wrapS (by omega), wrapS (by omega), ← hl1]
      all_goals first
        | refine g_subF 9 rfl (LeS.qq (b' := thereB R a (i + 1)) (by rw [ht1, h]; simp)) ?_
        | refine g_subF 9 rfl (LeS.qb (b' := thereB R a (i + 1)) (by rw [ht1, h]; simp)) ?_
      all_goals exact g_round (i + 1) (by omega) id (by omega) ⟨rfl, ⟨rfl, rfl, rfl, rfl, rfl, rfl, rfl, rfl, rfl, trivial⟩, ⟨rfl, rfl, rfl, rfl, rfl, rfl, trivial⟩, rfl, fun _ _ => rfl⟩
    · have hl1 : lessN R a (i + 1) = lessN R a i := by rw [hl1, if_neg c1]; rfl
      repeat' first
        | refine g_go T hC true 400 rfl rfl ?_
        | (exact absurd (of_decide_eq_true h) c1)
        | refine g_cond rfl (fun h => ?_) (fun h => ?_)
        | refine g_end T hC (by kernel_rfl) ?_
        | refine g_splitD (fun h => ?_) (fun h => ?_)
        | refine g_splitG rfl rfl rfl (fun h => ?_) (fun h => ?_)
        | refine g_splitP rfl rfl (fun h => ?_) (fun h => ?_)
        | (refine g_idxR T hC i rfl rfl rfl rfl rfl (by omega) rfl rfl ?_; refine g_loadR T hC rfl rfl rfl (by omega) rfl rfl ?_)
        | (refine g_idxC T hC 0 hr (by simp) rfl rfl rfl rfl rfl rfl ?_; refine g_loadC T hC hr hv rfl rfl rfl rfl rfl ?_)
      all_goals rw [wrapS (by omega), ← hl1]
      all_goals first
        | refine g_subF 9 rfl (LeS.qq (b' := thereB R a (i + 1)) (by rw [ht1, h]; simp)) ?_
        | refine g_subF 9 rfl (LeS.qb (b' := thereB R a (i + 1)) (by rw [ht1, h]; simp)) ?_
      all_goals exact g_round (i + 1) (by omega) id (by omega) ⟨rfl, ⟨rfl, rfl, rfl, rfl, rfl, rfl, rfl, rfl, rfl, trivial⟩, ⟨rfl, rfl, rfl, rfl, rfl, rfl, trivial⟩, rfl, fun _ _ => rfl⟩
  have hge : R.length = i := by have := of_decide_eq_false h; omega
  subst hge
  clear h hi
  rw [lessN_end hT, thereB_end hT, hh, hp]
  have hsl : (R.set p (r.set 1 b)).length = R.length := List.length_set
  repeat' first
    | refine g_go T hC true 400 rfl rfl ?_
    | (exfalso; simp at h; done)
    | refine g_cond rfl (fun h => ?_) (fun h => ?_)
    | refine g_end T hC (by kernel_rfl) ?_
    | refine g_splitD (fun h => ?_) (fun h => ?_)
    | refine g_splitG rfl rfl rfl (fun h => ?_) (fun h => ?_)
    | refine g_splitP rfl rfl (fun h => ?_) (fun h => ?_)
    | refine g_outE ?_
    | (refine g_idxR T hC p rfl rfl rfl rfl rfl (by omega) rfl rfl ?_; refine g_loadR T hC rfl rfl rfl (by omega) rfl rfl ?_)
    | refine g_idx T hC (rows := [a, b].map intR) rfl rfl rfl (by decide) rfl rfl rfl ?_
    | (refine g_idxC T hC 1 hq (by omega) rfl rfl rfl rfl rfl rfl ?_)
    | (refine g_storeC T hC hq (by omega) rfl rfl rfl rfl rfl ?_)
    | (rw [← hsl]; refine g_freezeN rfl [(0, vg 1 (R.set p (r.set 1 b)).length), (1, bg (R.set p (r.set 1 b)))] rfl [(70, aggS (stR 1 (R.set p (r.set 1 b))))] ⟨⟨_, rfl, LnS.agg (.cons (.refl _) (.cons (lend2 0 1 _) .nil))⟩, trivial⟩ [] trivial ?_; refine g_call hC hY rfl rfl (LeSs.refl _) rfl rfl rfl ?_)
  exact g_fin ⟨.inl rfl, id, _, rfl, .refl _, trivial, rfl, rfl⟩
theorem rdict_pure (R : Rws) (o : OpT) (hv : validS 1 R = true) (ho : okOp 1 o = true) (hne : ¬ (o.code = 1 ∧ hasC 1 R o.args = true)) :
    FnOK Tryz.prog 37 [aggS (stR 1 R), aggS (opR o)] [] (.tup [aggS (stR 1 (dictS R o).1), aggS (rsR (dictS R o).2)]) [] := by
  obtain ⟨hR, hT⟩ := valid1 hv
  have hrow : ∀ (i : Nat), i < R.length → R[i]? = some (rowA R i) ∧ (rowA R i).length = 2 := fun i hi => ⟨rowA_lt hi, hT.wide _ (List.mem_of_getElem? (rowA_lt hi))⟩
  have hcell : ∀ (i j : Nat), i < R.length → j < 2 → (rowA R i)[j]? = some (at0 (rowA R i) j) := fun i j hi hj => at0_lt (by rw [(hrow i hi).2]; exact hj)
  rcases op1 ho with rfl | ⟨a, hc, ha⟩ | ⟨a, b, rfl, ha, hb⟩
  · exact rdict8 R hR hT
  · have hle := posC_le 1 R [a]
    have h7 : FnOK Tryz.prog 37 [aggS (stR 1 R), aggS (opR ⟨7, [a]⟩)] [] (.tup [aggS (stR 1 (dictS R ⟨7, [a]⟩).1), aggS (rsR (dictS R ⟨7, [a]⟩).2)]) [] := by
      by_cases h0 : 0 ≤ a ∧ a < R.length
      · have e : dictS R ⟨7, [a]⟩ = (R, okR (at0 (rowA R a.toNat) 0)) := by simp [dictS, at0, h0]
        rw [e]
        have hlt : a.toNat < R.length := by omega
        exact rdict7 R hR hT a.toNat a (by omega) _ _ (hrow _ hlt).1 (hcell _ 0 hlt (by omega))
      · have e : dictS R ⟨7, [a]⟩ = (R, erR 2) := by
          simp only [dictS]
          rw [if_neg (by decide), if_pos trivial]
          exact if_neg h0
        rw [e]
        exact rdict7n R hR hT a (by omega)
    have hyes := hasC_yes (c := 1) (R := R) (a := [a])
    cases hq : hasC 1 R [a] with
    | true =>
      obtain ⟨r, hr, hlt, _⟩ := hyes hq
      obtain ⟨h1, h2⟩ := hrow _ hlt
      rcases hc with rfl | rfl | rfl | rfl | rfl | rfl
      · have e : dictS R ⟨2, [a]⟩ = (R, okR (at0 (rowA R (posC 1 R [a])) 1)) := by simp [dictS, hq]
        rw [e]
        exact rdict2 R hR hT a hq _ rfl hlt _ _ h1 (hcell _ 1 hlt (by omega))
      · have e : dictS R ⟨3, [a]⟩ = (R.eraseIdx (posC 1 R [a]), okR (at0 (rowA R (posC 1 R [a])) 1)) := by simp [dictS, hq]
        rw [e]
        exact rdict3 R hR hT a hq _ rfl hlt _ _ h1 (hcell _ 1 hlt (by omega))
      · have e : dictS R ⟨4, [a]⟩ = (R, okR a) := by simp [dictS, hq, at0]
        rw [e]
        exact rdict4y R hR hT a hq
      · have e : dictS R ⟨5, [a]⟩ = (R, okR (at0 (rowA R (posC 1 R [a])) 0)) := by simp [dictS, Nat.ne_of_lt hlt]
        rw [e]
        exact rdict5 R hR hT a _ rfl hlt _ _ h1 (hcell _ 0 hlt (by omega))
      · exact rdict6 R hR hT a
      · exact h7
    | false =>
      rcases hc with rfl | rfl | rfl | rfl | rfl | rfl
      · have e : dictS R ⟨2, [a]⟩ = (R, erR 12) := by simp [dictS, hq]
        rw [e]
        exact rdict2n R hR hT a hq
      · have e : dictS R ⟨3, [a]⟩ = (R, erR 12) := by simp [dictS, hq]
        rw [e]
        exact rdict3n R hR hT a hq
      · by_cases h0 : posC 1 R [a] = 0
        · have e : dictS R ⟨4, [a]⟩ = (R, erR 12) := by simp [dictS, hq, h0]
          rw [e]
          exact rdict4n R hR hT a hq h0
        · obtain ⟨i, hi⟩ : ∃ i, posC 1 R [a] = i + 1 := ⟨posC 1 R [a] - 1, by omega⟩
          have e : dictS R ⟨4, [a]⟩ = (R, okR (at0 (rowA R i) 0)) := by simp [dictS, hq, hi]
          rw [e]
          exact rdict4 R hR hT a hq i hi (by omega) _ _ (hrow i (by omega)).1 (hcell _ 0 (by omega) (by omega))
      · by_cases h0 : posC 1 R [a] = R.length
        · have e : dictS R ⟨5, [a]⟩ = (R, erR 12) := by simp [dictS, h0]
          rw [e]
          exact rdict5n R hR hT a h0
        · have hlt : posC 1 R [a] < R.length := by omega
          have e : dictS R ⟨5, [a]⟩ = (R, okR (at0 (rowA R (posC 1 R [a])) 0)) := by simp [dictS, h0]
          rw [e]
          exact rdict5 R hR hT a _ rfl hlt _ _ (hrow _ hlt).1 (hcell _ 0 hlt (by omega))
      · exact rdict6 R hR hT a
      · exact h7
  · have hp : posC 1 R [a, b] = posC 1 R [a] := (posC_key 1 R [a, b]).symm
    have hh : hasC 1 R [a, b] = hasC 1 R [a] := (hasC_key 1 R [a, b]).symm
    have hle := posC_le 1 R [a]
    cases hq : hasC 1 R [a] with
    | true => exact absurd ⟨rfl, by rw [hh, hq]⟩ hne
    | false =>
      by_cases h5 : R.length = 500
      · have e : dictS R ⟨1, [a, b]⟩ = (R, erR 4) := by simp [dictS, hh, hq, h5]
        rw [e]
        exact rdict1f R hR hT a b hq h5
      · have e : dictS R ⟨1, [a, b]⟩ = (insR R (posC 1 R [a]) [a, b], okR 0) := by simp [dictS, hp, hh, hq, h5]
        rw [e]
        exact rdict1 R hR hT a b hq _ rfl hle (by omega)
theorem rdict_own (R : Rws) (o : OpT) (hv : validS 1 R = true) (ho : okOp 1 o = true) (h1 : o.code = 1) (hq : hasC 1 R o.args = true) :
    FnOK Tryz.prog 37 [.agg [.p (ki 1), .ar 0], aggS (opR o)] [(0, vg 1 R.length), (1, bg R)] (.tup [aggS (stR 1 (dictS R o).1), aggS (rsR (dictS R o).2)]) [] := by
  obtain ⟨hR, hT⟩ := valid1 hv
  rcases op1 ho with rfl | ⟨a, hc, ha⟩ | ⟨a, b, rfl, ha, hb⟩
  · exact absurd h1 (by decide)
  · rcases hc with rfl | rfl | rfl | rfl | rfl | rfl <;> simp at h1
  · have hp : posC 1 R [a, b] = posC 1 R [a] := (posC_key 1 R [a, b]).symm
    have hh : hasC 1 R [a, b] = hasC 1 R [a] := (hasC_key 1 R [a, b]).symm
    have hq2 := hq
    simp only at hq
    rw [hh] at hq
    obtain ⟨r, hr, hlt, _⟩ := hasC_yes hq
    have e : dictS R ⟨1, [a, b]⟩ = (R.set (posC 1 R [a]) ((rowA R (posC 1 R [a])).set 1 b), okR 1) := by simp [dictS, hp, hh, hq, at0]
    rw [e]
    exact rdict1y R hR hT a b hq _ rfl hlt _ (rowA_lt hlt) (hT.wide _ (List.mem_of_getElem? (rowA_lt hlt)))
end Hw.Mz
