/- The engine and the contracts. -/
import Derived.Test.YtmnhegkogibipaaGreatDoorC11
set_option linter.unusedVariables false
set_option linter.unusedSimpArgs false
namespace Hw.Z
open Go Go.Proofs Hw.M

/-! Alloc -/
def allocM (d : Desc) (m : Hp) (typ : Int) : Hp := ⟨m.g, m.n ++ [⟨typ, List.replicate (fieldsAt d typ).length 0⟩]⟩
theorem alloc_no {d : Desc} {m : Hp} (hval : validM d m = false) (typ : Int) : FnOK Tryz.prog 33 [aggS (descR d), aggS (memR m), I typ] [] (.tup [aggS (memR ⟨[], []⟩), I 0, I 1]) [] := by
  have hV := heapValid_ok d m
  rw [hval] at hV
  refine fn_ok T Tryz.func33 (by kernel_rfl) rfl rfl rfl rfl fun C hC => ?_
  repeat' first
    | refine g_go T hC true 400 rfl rfl ?_
    | refine g_cond rfl (fun h => ?_) (fun h => ?_)
    | refine g_end T hC (by kernel_rfl) ?_
    | refine g_splitD (fun h => ?_) (fun h => ?_)
    | refine g_splitG rfl rfl rfl (fun h => ?_) (fun h => ?_)
    | refine g_splitP rfl rfl (fun h => ?_) (fun h => ?_)
    | refine g_call hC (hV) rfl rfl (LeSs.refl _) rfl rfl rfl ?_
  all_goals first
    | exact g_fin ⟨.inl rfl, id, _, rfl, LeS.tup (.cons (LeS.agg (.cons (.nil 1) (.cons (.nil 2) .nil))) (.cons (.refl _) (.cons (.refl _) .nil))), trivial, rfl, rfl⟩
    | (exfalso; simp_all; done)
theorem alloc_off {d : Desc} {m : Hp} (hval : validM d m = true) {typ : Int} (ho : offF d.types.length typ) : FnOK Tryz.prog 33 [aggS (descR d), aggS (memR m), I typ] [] (.tup [aggS (memR ⟨[], []⟩), I 0, I 2]) [] := by
  have hV := heapValid_ok d m
  rw [hval] at hV
  unfold offF at ho
  refine fn_ok T Tryz.func33 (by kernel_rfl) rfl rfl rfl rfl fun C hC => ?_
  repeat' first
    | refine g_go T hC true 400 rfl rfl ?_
    | refine g_cond rfl (fun h => ?_) (fun h => ?_)
    | refine g_end T hC (by kernel_rfl) ?_
    | refine g_splitD (fun h => ?_) (fun h => ?_)
    | refine g_splitG rfl rfl rfl (fun h => ?_) (fun h => ?_)
    | refine g_splitP rfl rfl (fun h => ?_) (fun h => ?_)
    | refine g_call hC (hV) rfl rfl (LeSs.refl _) rfl rfl rfl ?_
  all_goals first
    | (exfalso; cases h; done)
    | (exfalso; simp only [List.length_map, decide_eq_true_eq, decide_eq_false_iff_not] at *; omega)
    | exact g_fin ⟨.inl rfl, id, _, rfl, LeS.tup (.cons (LeS.agg (.cons (.nil 1) (.cons (.nil 2) .nil))) (.cons (.refl _) (.cons (.refl _) .nil))), trivial, rfl, rfl⟩
theorem alloc_full {d : Desc} {m : Hp} (hval : validM d m = true) {typ : Int} (ho : ¬ offF d.types.length typ) (hfu : 4096 ≤ m.n.length) : FnOK Tryz.prog 33 [aggS (descR d), aggS (memR m), I typ] [] (.tup [aggS (memR ⟨[], []⟩), I 0, I 21]) [] := by
  have hV := heapValid_ok d m
  rw [hval] at hV
  unfold offF at ho
  obtain ⟨ty, hty⟩ := exists_at (l := d.types) (i := typ.toNat) (by omega)
  refine fn_ok T Tryz.func33 (by kernel_rfl) rfl rfl rfl rfl fun C hC => ?_
  repeat' first
    | refine g_go T hC true 400 rfl rfl ?_
    | refine g_cond rfl (fun h => ?_) (fun h => ?_)
    | refine g_end T hC (by kernel_rfl) ?_
    | refine g_splitD (fun h => ?_) (fun h => ?_)
    | refine g_splitG rfl rfl rfl (fun h => ?_) (fun h => ?_)
    | refine g_splitP rfl rfl (fun h => ?_) (fun h => ?_)
    | refine g_call hC (hV) rfl rfl (LeSs.refl _) rfl rfl rfl ?_
  all_goals first
    | (exfalso; cases h; done)
    | (exfalso; simp only [List.length_map, decide_eq_true_eq, decide_eq_false_iff_not] at *; omega)
    | exact g_fin ⟨.inl rfl, id, _, rfl, LeS.tup (.cons (LeS.agg (.cons (.nil 1) (.cons (.nil 2) .nil))) (.cons (.refl _) (.cons (.refl _) .nil))), trivial, rfl, rfl⟩
theorem types_le {d : Desc} {m : Hp} (hval : validM d m = true) : ∀ ty ∈ d.types, ty.f.length ≤ 1000000 := fun ty hm => by
  have h0 : hasTypes d = true := by simp only [validM, Bool.and_eq_true] at hval; exact hval.1.1.1.1.1
  have hv := (hasTypes_parts h0).1
  simp only [validD, validPre, Bool.and_eq_true] at hv
  have := List.all_eq_true.1 hv.1.1.2 ty hm
  simp only [typeOk, Bool.and_eq_true] at this
  have := fields_le this.2
  omega
theorem rep_zero (l : List Fld) : List.replicate (l.map fieldR).length [ki 0] = (List.replicate l.length (0 : Int)).map intR := by rw [List.map_replicate, List.length_map]; rfl
theorem alloc_ok {d : Desc} {m : Hp} (hval : validM d m = true) {typ : Int} (ho : ¬ offF d.types.length typ) (hfu : ¬ 4096 ≤ m.n.length) : FnOK Tryz.prog 33 [aggS (descR d), aggS (memR m), I typ] []
    (.tup [aggS (memR (allocM d m typ)), I (allocM d m typ).n.length, I 0]) [] := by
  have hV := heapValid_ok d m
  rw [hval] at hV
  have hz := sizes_of hval
  unfold offF at ho
  obtain ⟨ty, hty⟩ := exists_at (l := d.types) (i := typ.toNat) (by omega)
  have htl := types_le hval ty (List.mem_of_getElem? hty)
  have hC1 := clone12_ok m m.n.length hz.1 (by omega) hz.2
  have ha : allocM d m typ = ⟨m.g, m.n ++ [⟨typ, List.replicate ty.f.length 0⟩]⟩ := by simp only [allocM, fieldsAt, hty, Option.map_some, Option.getD_some]
  rw [ha]
  have hml : (m.n.map nodeR).length = m.n.length := List.length_map _
  have hr3 : m.n.map nodeR ++ [nodeR ⟨typ, List.replicate ty.f.length 0⟩] = (m.n ++ [(⟨typ, List.replicate ty.f.length 0⟩ : Nd)]).map nodeR := by rw [List.map_append]; rfl
  refine fn_ok T Tryz.func33 (by kernel_rfl) rfl rfl rfl rfl fun C hC => ?_
  repeat' first
    | refine g_go T hC true 400 rfl rfl ?_
    | refine g_cond rfl (fun h => ?_) (fun h => ?_)
    | refine g_end T hC (by kernel_rfl) ?_
    | refine g_splitD (fun h => ?_) (fun h => ?_)
    | refine g_splitG rfl rfl rfl (fun h => ?_) (fun h => ?_)
    | refine g_splitP rfl rfl (fun h => ?_) (fun h => ?_)
    | refine g_call hC (hV) rfl rfl (LeSs.refl _) rfl rfl rfl ?_
    | (refine g_callR hC hC1 (nm [141, 142, 143]) rfl rfl (LeSs.refl _) rfl rfl rfl rfl rfl rfl rfl rfl ?_; refine g_dropX rfl 142 rfl (drop_out m.n 143) ?_)
    | (refine g_idx T hC rfl rfl rfl (by omega) (map_atI hty) rfl rfl ?_)
    | (refine g_zeros T hC (bytes := 8) (ty.f.map fieldR).length rfl rfl rfl rfl rfl rfl (by kernel_rfl) rfl (by rw [List.length_map]; exact htl) rfl rfl ?_; refine g_say 45 rfl (s' := pS (intsP (List.replicate ty.f.length 0))) (congrArg (fun r => S.one (.p (.sl 1 r))) (rep_zero ty.f)) ?_)
    | refine g_lit T hC rfl rfl rfl rfl rfl rfl rfl rfl rfl ?_
    | (refine g_append T 144 hC (rows := m.n.map nodeR) (rows2 := [nodeR ⟨typ, List.replicate ty.f.length 0⟩]) (rows3 := (m.n ++ [(⟨typ, List.replicate ty.f.length 0⟩ : Nd)]).map nodeR) (bytes := 32) rfl rfl rfl rfl (SrcS.sl (T.es_ok _ _ rfl)) hr3 rfl rfl rfl (by kernel_rfl) (by rw [hml, List.length_singleton]; omega) (by rw [hml, List.length_singleton]; omega) rfl rfl rfl ?_)
  all_goals first
    | (exfalso; cases h; done)
    | (exfalso; simp only [List.length_map, decide_eq_true_eq, decide_eq_false_iff_not] at *; omega)
    | skip
  refine g_freeze rfl (id := 144) (e := 2) (rows := (m.n ++ [(⟨typ, List.replicate ty.f.length 0⟩ : Nd)]).map nodeR) rfl [] trivial [(1006, [.ar 141, .p (nodesP (m.n ++ [(⟨typ, List.replicate ty.f.length 0⟩ : Nd)]))])] ⟨⟨_, rfl, by decide, .cons (.refl _) (.cons .ar .nil)⟩, trivial⟩ ?_
  refine g_freeze rfl (id := 141) (e := 1) (rows := m.g.map intR) rfl [] trivial [(1006, [.p (intsP m.g), .p (nodesP (m.n ++ [(⟨typ, List.replicate ty.f.length 0⟩ : Nd)]))])] ⟨⟨_, rfl, by decide, .cons .ar (.cons (.refl _) .nil)⟩, trivial⟩ ?_
  exact g_fin ⟨.inl rfl, id, _, rfl, LeS.tup (.cons (.refl _) (.cons (.of (by rw [List.length_map]; rfl)) (.cons (.refl _) .nil))), trivial, rfl, rfl⟩

/-! The reference's -/
theorem mv2_low {a b c e i : Nat} (ha : 100 ≤ a) (hc : 100 ≤ c) (hi : i < 100) : mv a b (mv c e i) = i := by rw [mv_low hc hi, mv_low ha hi]
theorem copy12_ok (m : Hp) (k : Nat) (hg : m.g.length ≤ 1000000) (hn : m.n.length ≤ 1000000) (hf : ∀ x ∈ m.n, x.f.length ≤ 1000000) :
    FnOK Tryz.prog 30 [aggS (memR m)] [] (.agg [.ar 0, .ar 1]) [(0, .arr 1 (m.g.map intR)), (1, .arv 2 (m.n.map nodeR) [(2 * k + 1, .ar 2)]), (2, .arr 1 ((fAt m k).map intR))] := by
  have hgm : (m.g.map intR).length = m.g.length := List.length_map _
  have hnm : (m.n.map nodeR).length = m.n.length := List.length_map _
  refine fn_ok T Tryz.func30 (by kernel_rfl) rfl rfl rfl rfl fun C hC => ?_
  repeat' first
    | refine g_go T hC true 400 rfl rfl ?_
    | refine g_cond rfl (fun h => ?_) (fun h => ?_)
    | refine g_end T hC (by kernel_rfl) ?_
    | refine g_splitD (fun h => ?_) (fun h => ?_)
    | refine g_splitG rfl rfl rfl (fun h => ?_) (fun h => ?_)
    | refine g_splitP rfl rfl (fun h => ?_) (fun h => ?_)
    | refine g_litO T hC rfl rfl rfl rfl rfl ?_
    | (refine g_append T 141 hC (rows := []) (rows2 := m.g.map intR) (rows3 := m.g.map intR) (bytes := 8) rfl rfl rfl rfl (SrcS.sl (T.es_ok _ _ rfl)) rfl rfl rfl rfl (by kernel_rfl) (by simp only [List.length_nil, hgm]; omega) (by simp only [List.length_nil, hgm]; omega) rfl rfl rfl ?_)
  refine g_adopt hC rfl 150 1 rfl [] trivial [] trivial ?_
  refine g_adopt hC rfl 160 2 rfl [] trivial [(1003, [.ar 141, .ar 160])] ⟨⟨_, rfl, by decide, .cons (.refl _) (.cons .nil .nil)⟩, trivial⟩ ?_
  refine g_toV rfl 160 rfl ?_
  refine g_xs rfl 160 [(2 * k + 1, .ar 150)] rfl (fun j p hj => by simp at hj) ?_
  refine g_loop (fun i : Nat => i ≤ m.n.length) (fun i => ([(1, .one (.bx 1001 0)), (2, .one (.bx 1002 0)), (3, .one (.bx 1003 0)), (4, I i)],
      [(1001, some (Res.box ((memR m).map V.p))), (1002, some (Res.box [.p (.k (.slice none 0 0)), .p (.k (.slice none 0 0))])), (1003, some (Res.box [.ar 141, .ar 160])), (141, some (Res.arr 1 (m.g.map intR))), (160, some (Res.arv 2 ((m.n.take i).map nodeR) [(2 * k + 1, .ar 150)])), (150, some (Res.arr 1 ((fUp m k i).map intR)))])) (fun i => m.n.length - i) hC
    0 (Nat.zero_le _) id ⟨rfl, ⟨rfl, rfl, rfl, rfl, trivial⟩, ⟨rfl, rfl, rfl, rfl, rfl, by (simp [fUp]; rfl), trivial⟩, rfl, fun _ _ => rfl⟩ ?_
  intro i hi
  refine g_run' T hC true 200 rfl ?_
  refine g_cond rfl (fun h => ?_) (fun h => ?_)
  rotate_left
  · have hge : ¬ i < m.n.length := by simpa using h
    rw [List.take_of_length_le (by omega)]
    have hfu : fUp m k i = fAt m k := by
      by_cases hk : k < i
      · simp only [fUp, if_pos hk]
      · have : m.n[k]? = none := List.getElem?_eq_none (by omega)
        simp only [fUp, if_neg hk, fAt, this, Option.map_none, Option.getD_none]
    rw [hfu]
    repeat' first
      | refine g_go T hC true 400 rfl rfl ?_
      | refine g_cond rfl (fun h => ?_) (fun h => ?_)
      | refine g_end T hC (by kernel_rfl) ?_
      | refine g_splitD (fun h => ?_) (fun h => ?_)
      | refine g_splitG rfl rfl rfl (fun h => ?_) (fun h => ?_)
      | refine g_splitP rfl rfl (fun h => ?_) (fun h => ?_)
      | refine g_outE ?_
    exact g_fin ⟨.inl rfl, nm [141, 160, 150], _, rfl, .refl _, ⟨rfl, rfl, rfl, trivial⟩, rfl, rfl⟩
  have hlt : i < m.n.length := by simpa using h
  clear h
  obtain ⟨x, hx⟩ := exists_at hlt
  have hxf := hf x (List.mem_of_getElem? hx)
  have hfm : (x.f.map intR).length = x.f.length := List.length_map _
  have htl : ((m.n.take i).map nodeR).length = i := by simp only [List.length_map, List.length_take]; omega
  have hr3 : (m.n.take i).map nodeR ++ [nodeR x] = (m.n.take (i + 1)).map nodeR := by rw [take_snoc' hx, List.map_append]; rfl
  have hx1 : ∀ j p, j < ((m.n.take i).map nodeR).length * 2 → xv [(2 * i + 1, .ar 145), (2 * k + 1, .ar 150)] j p = xv [(2 * k + 1, .ar 150)] j p := fun j p hj => by
    rw [htl] at hj
    exact xv_ne (by omega)
  have hx3 : ∀ j p, j < [nodeR x].length * 2 → xv [(2 * i + 1, .ar 145), (2 * k + 1, .ar 150)] (((m.n.take i).map nodeR).length * 2 + j) p = xv [(1, .ar 145)] j p := fun j p hj => by
    rw [htl]
    match j, hj with
    | 0, _ => rw [xv_ne (by omega), xv_ne (by omega), xv_ne (by omega)]; rfl
    | 1, _ => rw [show i * 2 + 1 = 2 * i + 1 by omega, xv_eq, xv_eq]
    | j + 2, hj => simp only [List.length_singleton] at hj; omega
  repeat' first
    | refine g_go T hC true 400 rfl rfl ?_
    | refine g_cond rfl (fun h => ?_) (fun h => ?_)
    | refine g_end T hC (by kernel_rfl) ?_
    | refine g_splitD (fun h => ?_) (fun h => ?_)
    | refine g_splitG rfl rfl rfl (fun h => ?_) (fun h => ?_)
    | refine g_splitP rfl rfl (fun h => ?_) (fun h => ?_)
    | refine g_litO T hC rfl rfl rfl rfl rfl ?_
    | refine g_idx T hC rfl rfl rfl (Int.natCast_nonneg _) (map_at (by assumption)) rfl rfl ?_
    | (refine g_append T 145 hC (rows := []) (rows2 := x.f.map intR) (rows3 := x.f.map intR) (bytes := 8) rfl rfl rfl rfl (SrcS.sl (T.es_ok _ _ rfl)) rfl rfl rfl rfl (by kernel_rfl) (by simp only [List.length_nil, hfm]; omega) (by simp only [List.length_nil, hfm]; omega) rfl rfl rfl ?_)
    | (refine g_litV T hC (nodeR x) [(1, .ar 145)] rfl rfl rfl rfl rfl rfl rfl rfl rfl rfl rfl rfl rfl ?_)
    | (refine g_appendV T 161 hC (rows := (m.n.take i).map nodeR) (rows2 := [nodeR x]) (rows3 := (m.n.take (i + 1)).map nodeR) (x2 := [(1, .ar 145)]) (bytes := 32) [(2 * i + 1, .ar 145), (2 * k + 1, .ar 150)] rfl rfl rfl rfl (SrcX.av (T.es_ok _ _ rfl)) hr3 hx1 hx3 rfl rfl rfl rfl rfl (by kernel_rfl) (by rw [htl, List.length_singleton]; omega) (by rw [htl, List.length_singleton]; omega) rfl rfl rfl ?_)
  rw [wrap64 (by omega)]
  by_cases hik : i = k
  · subst hik
    refine g_xs rfl 161 [(2 * i + 1, .ar 145)] rfl (fun j p _ => ?_) ?_
    · by_cases e : 2 * i + 1 = j
      · subst e; rw [xv_eq, xv_eq]
      · rw [xv_ne e, xv_ne e, xv_ne e]
    exact g_round (i + 1) (by omega) (fun j => mv 160 161 (mv 150 145 j)) (by omega) ⟨rfl, ⟨rfl, rfl, rfl, rfl, trivial⟩, ⟨rfl, rfl, rfl, rfl, rfl, by (simp only [fUp, fAt_some hx, if_pos (Nat.lt_succ_self i)]; rfl), trivial⟩, rfl, fun i hi => mv2_low (by omega) (by omega) hi⟩
  · refine g_freezeR rfl 145 (e := 1) (rows := x.f.map intR) rfl [] trivial [(161, .arv 2 ((m.n.take (i + 1)).map nodeR) [(2 * k + 1, .ar 150)])] ⟨⟨_, rfl, by decide, FrR.av rfl (rows_two _) (fun q p hq => ?_)⟩, trivial⟩ ?_
    · by_cases e : 2 * i + 1 = q
      · left
        have e1 := flat_at (rows_two (m.n.take (i + 1))) (i := i) (c := 1) (by omega)
        have e0 : ((m.n.take (i + 1)).map nodeR)[i]? = some (nodeR x) := by rw [List.getElem?_map, List.getElem?_take, if_pos (Nat.lt_succ_self i), hx]; rfl
        rw [show i * 2 + 1 = q by omega, hq, e0] at e1
        have e2 : p = intsP x.f := by simpa [nodeR] using e1
        subst e2
        exact ⟨rfl, by rw [xv_ne (by omega)]; rfl, _, hq, by rw [e, xv_eq]⟩
      · right
        exact ⟨p, hq, by rw [xv_ne e]⟩
    · have hfu : fUp m k (i + 1) = fUp m k i := by
        unfold fUp
        by_cases h1 : k < i
        · rw [if_pos h1, if_pos (by omega)]
        · rw [if_neg h1, if_neg (by omega)]
      exact g_round (i + 1) (by omega) (mv 160 161) (by omega) ⟨rfl, ⟨rfl, rfl, rfl, rfl, trivial⟩, ⟨rfl, rfl, rfl, rfl, rfl, by (rw [hfu]; rfl), trivial⟩, rfl, fun i hi => mv_low (by omega) hi⟩
end Hw.Z
namespace Hw.Z
open Go Go.Proofs Hw.M

theorem ralloc_off {d : Desc} {m : Hp} {typ : Int} (ho : offF d.types.length typ) : FnOK Tryz.prog 34 [aggS (descR d), aggS (memR m), I typ] [] (.tup [aggS (memR ⟨[], []⟩), I 0, I 2]) [] := by
  unfold offF at ho
  refine fn_ok T Tryz.func34 (by kernel_rfl) rfl rfl rfl rfl fun C hC => ?_
  repeat' first
    | refine g_go T hC true 400 rfl rfl ?_
    | refine g_cond rfl (fun h => ?_) (fun h => ?_)
    | refine g_end T hC (by kernel_rfl) ?_
    | refine g_splitD (fun h => ?_) (fun h => ?_)
    | refine g_splitG rfl rfl rfl (fun h => ?_) (fun h => ?_)
    | refine g_splitP rfl rfl (fun h => ?_) (fun h => ?_)
  all_goals first
    | (exfalso; simp only [List.length_map, decide_eq_true_eq, decide_eq_false_iff_not] at *; omega)
    | exact g_fin ⟨.inl rfl, id, _, rfl, LeS.tup (.cons (LeS.agg (.cons (.nil 1) (.cons (.nil 2) .nil))) (.cons (.refl _) (.cons (.refl _) .nil))), trivial, rfl, rfl⟩
theorem ralloc_full {d : Desc} {m : Hp} {typ : Int} (ho : ¬ offF d.types.length typ) (hfu : 4096 ≤ m.n.length) : FnOK Tryz.prog 34 [aggS (descR d), aggS (memR m), I typ] [] (.tup [aggS (memR ⟨[], []⟩), I 0, I 21]) [] := by
  unfold offF at ho
  refine fn_ok T Tryz.func34 (by kernel_rfl) rfl rfl rfl rfl fun C hC => ?_
  repeat' first
    | refine g_go T hC true 400 rfl rfl ?_
    | refine g_cond rfl (fun h => ?_) (fun h => ?_)
    | refine g_end T hC (by kernel_rfl) ?_
    | refine g_splitD (fun h => ?_) (fun h => ?_)
    | refine g_splitG rfl rfl rfl (fun h => ?_) (fun h => ?_)
    | refine g_splitP rfl rfl (fun h => ?_) (fun h => ?_)
  all_goals first
    | (exfalso; simp only [List.length_map, decide_eq_true_eq, decide_eq_false_iff_not] at *; omega)
    | exact g_fin ⟨.inl rfl, id, _, rfl, LeS.tup (.cons (LeS.agg (.cons (.nil 1) (.cons (.nil 2) .nil))) (.cons (.refl _) (.cons (.refl _) .nil))), trivial, rfl, rfl⟩
theorem ralloc_ok {d : Desc} {m : Hp} (hval : validM d m = true) {typ : Int} (ho : ¬ offF d.types.length typ) (hfu : ¬ 4096 ≤ m.n.length) : FnOK Tryz.prog 34 [aggS (descR d), aggS (memR m), I typ] []
    (.tup [aggS (memR (allocM d m typ)), I (allocM d m typ).n.length, I 0]) [] := by
  have hz := sizes_of hval
  unfold offF at ho
  obtain ⟨ty, hty⟩ := exists_at (l := d.types) (i := typ.toNat) (by omega)
  have htl := types_le hval ty (List.mem_of_getElem? hty)
  have hC1 := copy12_ok m m.n.length hz.1 (by omega) hz.2
  have ha : allocM d m typ = ⟨m.g, m.n ++ [⟨typ, List.replicate ty.f.length 0⟩]⟩ := by simp only [allocM, fieldsAt, hty, Option.map_some, Option.getD_some]
  rw [ha]
  have hml : (m.n.map nodeR).length = m.n.length := List.length_map _
  have hr3 : m.n.map nodeR ++ [nodeR ⟨typ, List.replicate ty.f.length 0⟩] = (m.n ++ [(⟨typ, List.replicate ty.f.length 0⟩ : Nd)]).map nodeR := by rw [List.map_append]; rfl
  refine fn_ok T Tryz.func34 (by kernel_rfl) rfl rfl rfl rfl fun C hC => ?_
  repeat' first
    | refine g_go T hC true 400 rfl rfl ?_
    | refine g_cond rfl (fun h => ?_) (fun h => ?_)
    | refine g_end T hC (by kernel_rfl) ?_
    | refine g_splitD (fun h => ?_) (fun h => ?_)
    | refine g_splitG rfl rfl rfl (fun h => ?_) (fun h => ?_)
    | refine g_splitP rfl rfl (fun h => ?_) (fun h => ?_)
    | (refine g_callR hC hC1 (nm [141, 142, 143]) rfl rfl (LeSs.refl _) rfl rfl rfl rfl rfl rfl rfl rfl ?_; refine g_dropX rfl 142 rfl (drop_out m.n 143) ?_)
    | (refine g_idx T hC rfl rfl rfl (by omega) (map_atI hty) rfl rfl ?_)
    | (refine g_zeros T hC (bytes := 8) (ty.f.map fieldR).length rfl rfl rfl rfl rfl rfl (by kernel_rfl) rfl (by rw [List.length_map]; exact htl) rfl rfl ?_; refine g_say 37 rfl (s' := pS (intsP (List.replicate ty.f.length 0))) (congrArg (fun r => S.one (.p (.sl 1 r))) (rep_zero ty.f)) ?_)
    | refine g_lit T hC rfl rfl rfl rfl rfl rfl rfl rfl rfl ?_
    | (refine g_append T 144 hC (rows := m.n.map nodeR) (rows2 := [nodeR ⟨typ, List.replicate ty.f.length 0⟩]) (rows3 := (m.n ++ [(⟨typ, List.replicate ty.f.length 0⟩ : Nd)]).map nodeR) (bytes := 32) rfl rfl rfl rfl (SrcS.sl (T.es_ok _ _ rfl)) hr3 rfl rfl rfl (by kernel_rfl) (by rw [hml, List.length_singleton]; omega) (by rw [hml, List.length_singleton]; omega) rfl rfl rfl ?_)
  all_goals first
    | (exfalso; simp only [List.length_map, decide_eq_true_eq, decide_eq_false_iff_not] at *; omega)
    | skip
  refine g_freeze rfl (id := 144) (e := 2) (rows := (m.n ++ [(⟨typ, List.replicate ty.f.length 0⟩ : Nd)]).map nodeR) rfl [] trivial [(1006, [.ar 141, .p (nodesP (m.n ++ [(⟨typ, List.replicate ty.f.length 0⟩ : Nd)]))])] ⟨⟨_, rfl, by decide, .cons (.refl _) (.cons .ar .nil)⟩, trivial⟩ ?_
  refine g_freeze rfl (id := 141) (e := 1) (rows := m.g.map intR) rfl [] trivial [(1006, [.p (intsP m.g), .p (nodesP (m.n ++ [(⟨typ, List.replicate ty.f.length 0⟩ : Nd)]))])] ⟨⟨_, rfl, by decide, .cons .ar (.cons (.refl _) .nil)⟩, trivial⟩ ?_
  exact g_fin ⟨.inl rfl, id, _, rfl, LeS.tup (.cons (.refl _) (.cons (.of (by rw [List.length_map]; rfl)) (.cons (.refl _) .nil))), trivial, rfl, rfl⟩

def fldT (d : Desc) (m : Hp) (node field : Int) : Str := if offF (plF d m node).length field then (⟨#[]⟩ : ByteArray) else (((plF d m node)[field.toNat]?).map (·.t)).getD (⟨#[]⟩ : ByteArray)
theorem fldT_off {d : Desc} {m : Hp} {node field : Int} (h : offF (plF d m node).length field) : fldT d m node field = (⟨#[]⟩ : ByteArray) := by simp only [fldT, if_pos h]
theorem fldT_at {d : Desc} {m : Hp} {node field : Int} {f : Fld} (h : ¬ offF (plF d m node).length field) (hf : (plF d m node)[field.toNat]? = some f) : fldT d m node field = f.t := by simp only [fldT, if_neg h, hf, Option.map_some, Option.getD_some]
theorem fieldType_ok {d : Desc} {m : Hp} (hw : WG d m) (node field : Int) : FnOK Tryz.prog 36 [aggS (descR d), aggS (memR m), I node, I field] [] (Sr (fldT d m node field)) [] := by
  by_cases hn0 : node = 0
  · subst hn0
    by_cases ho : offF (plF d m 0).length field
    · rw [fldT_off ho]
      rw [(pl_zero d m).1] at ho
      unfold offF at ho
      refine fn_ok T Tryz.func36 (by kernel_rfl) rfl rfl rfl rfl fun C hC => ?_
      repeat' first
        | refine g_go T hC true 400 rfl rfl ?_
        | refine g_cond rfl (fun h => ?_) (fun h => ?_)
        | refine g_end T hC (by kernel_rfl) ?_
        | refine g_splitD (fun h => ?_) (fun h => ?_)
        | refine g_splitG rfl rfl rfl (fun h => ?_) (fun h => ?_)
        | refine g_splitP rfl rfl (fun h => ?_) (fun h => ?_)
      all_goals first
        | (exfalso; simp only [List.length_map, decide_eq_true_eq, decide_eq_false_iff_not] at *; omega)
        | (exfalso; simp_all; done)
        | exact g_fin ⟨.inl rfl, id, _, rfl, .refl _, trivial, rfl, rfl⟩
    · obtain ⟨f, hf⟩ := exists_at (l := plF d m 0) (i := field.toNat) (by unfold offF at ho; omega)
      rw [fldT_at ho hf]
      rw [(pl_zero d m).1] at ho hf
      unfold offF at ho
      refine fn_ok T Tryz.func36 (by kernel_rfl) rfl rfl rfl rfl fun C hC => ?_
      repeat' first
        | refine g_go T hC true 400 rfl rfl ?_
        | refine g_cond rfl (fun h => ?_) (fun h => ?_)
        | refine g_end T hC (by kernel_rfl) ?_
        | refine g_splitD (fun h => ?_) (fun h => ?_)
        | refine g_splitG rfl rfl rfl (fun h => ?_) (fun h => ?_)
        | refine g_splitP rfl rfl (fun h => ?_) (fun h => ?_)
        | (refine g_idx T hC rfl rfl rfl (by omega) (map_atI hf) rfl rfl ?_)
      all_goals first
        | exact g_fin ⟨.inl rfl, id, _, rfl, .refl _, trivial, rfl, rfl⟩
        | (exfalso; simp only [List.length_map, decide_eq_true_eq, decide_eq_false_iff_not] at *; omega)
        | (exfalso; simp_all; done)
  · by_cases hno : outN m node
    · have ho : offF (plF d m node).length field := by
        rw [(pl_out (d := d) hn0 hno).1]; unfold offF; simp only [List.length_nil]; omega
      rw [fldT_off ho]
      unfold outN at hno
      refine fn_ok T Tryz.func36 (by kernel_rfl) rfl rfl rfl rfl fun C hC => ?_
      repeat' first
        | refine g_go T hC true 400 rfl rfl ?_
        | refine g_cond rfl (fun h => ?_) (fun h => ?_)
        | refine g_end T hC (by kernel_rfl) ?_
        | refine g_splitD (fun h => ?_) (fun h => ?_)
        | refine g_splitG rfl rfl rfl (fun h => ?_) (fun h => ?_)
        | refine g_splitP rfl rfl (fun h => ?_) (fun h => ?_)
      all_goals first
        | (exfalso; simp only [List.length_map, Bool.not_eq_true', Bool.not_eq_false', decide_eq_true_eq, decide_eq_false_iff_not] at *; omega)
        | exact g_fin ⟨.inl rfl, id, _, rfl, .refl _, trivial, rfl, rfl⟩
    · obtain ⟨hw1, hn1, x, ty, hx, ht, hty, hlen⟩ := at_in hw.toWF hn0 hno
      by_cases ho : offF (plF d m node).length field
      · rw [fldT_off ho]
        rw [(pl_in hn0 hno hx hty).1] at ho
        unfold offF at ho
        unfold outN at hno
        refine fn_ok T Tryz.func36 (by kernel_rfl) rfl rfl rfl rfl fun C hC => ?_
        repeat' first
          | refine g_go T hC true 400 rfl rfl ?_
          | refine g_cond rfl (fun h => ?_) (fun h => ?_)
          | refine g_end T hC (by kernel_rfl) ?_
          | refine g_splitD (fun h => ?_) (fun h => ?_)
          | refine g_splitG rfl rfl rfl (fun h => ?_) (fun h => ?_)
          | refine g_splitP rfl rfl (fun h => ?_) (fun h => ?_)
          | (rw [hw1]; refine g_idx T hC rfl rfl rfl hn1 (map_atI hx) rfl rfl ?_)
          | refine g_idx T hC rfl rfl rfl ht (map_atI hty) rfl rfl ?_
        all_goals first
          | (exfalso; simp only [List.length_map, Bool.not_eq_true', Bool.not_eq_false', decide_eq_true_eq, decide_eq_false_iff_not] at *; omega)
          | exact g_fin ⟨.inl rfl, id, _, rfl, .refl _, trivial, rfl, rfl⟩
      · obtain ⟨f, hf⟩ := exists_at (l := plF d m node) (i := field.toNat) (by unfold offF at ho; omega)
        rw [fldT_at ho hf]
        rw [(pl_in hn0 hno hx hty).1] at ho hf
        unfold offF at ho
        unfold outN at hno
        refine fn_ok T Tryz.func36 (by kernel_rfl) rfl rfl rfl rfl fun C hC => ?_
        repeat' first
          | refine g_go T hC true 400 rfl rfl ?_
          | refine g_cond rfl (fun h => ?_) (fun h => ?_)
          | refine g_end T hC (by kernel_rfl) ?_
          | refine g_splitD (fun h => ?_) (fun h => ?_)
          | refine g_splitG rfl rfl rfl (fun h => ?_) (fun h => ?_)
          | refine g_splitP rfl rfl (fun h => ?_) (fun h => ?_)
          | (rw [hw1]; refine g_idx T hC rfl rfl rfl hn1 (map_atI hx) rfl rfl ?_)
          | refine g_idx T hC rfl rfl rfl ht (map_atI hty) rfl rfl ?_
          | (refine g_idx T hC rfl rfl rfl (by omega) (map_atI hf) rfl rfl ?_)
        all_goals first
          | exact g_fin ⟨.inl rfl, id, _, rfl, .refl _, trivial, rfl, rfl⟩
          | (exfalso; simp only [List.length_map, Bool.not_eq_true', Bool.not_eq_false', decide_eq_true_eq, decide_eq_false_iff_not] at *; omega)
theorem get_ok {d : Desc} {m : Hp} (hw : WG d m) {node field : Int} {y : Int} (ho : ¬ offF (plV m node).length field) (hy : (plV m node)[field.toNat]? = some y) : FnOK Tryz.prog 37 [aggS (memR m), I node, I field] [] (I y) [] := by
  unfold offF at ho
  have hf0 : 0 ≤ field := by omega
  by_cases hn0 : node = 0
  · subst hn0
    rw [(pl_zero d m).2] at hy
    refine fn_ok T Tryz.func37 (by kernel_rfl) rfl rfl rfl rfl fun C hC => ?_
    refine g_go T hC true 400 rfl rfl ?_
    refine g_cond rfl (fun h => ?_) (fun h => ?_)
    · repeat' first
        | refine g_go T hC true 400 rfl rfl ?_
        | refine g_cond rfl (fun h => ?_) (fun h => ?_)
        | refine g_end T hC (by kernel_rfl) ?_
        | refine g_splitD (fun h => ?_) (fun h => ?_)
        | refine g_splitG rfl rfl rfl (fun h => ?_) (fun h => ?_)
        | refine g_splitP rfl rfl (fun h => ?_) (fun h => ?_)
        | (refine g_idx T hC rfl rfl rfl hf0 (map_atI hy) rfl rfl ?_)
      exact g_fin ⟨.inl rfl, id, _, rfl, .refl _, trivial, rfl, rfl⟩
    · exfalso; simp at h
  · by_cases hno : outN m node
    · rw [(pl_out (d := d) hn0 hno).2] at hy; simp at hy
    · obtain ⟨hw1, hn1, x, ty, hx, ht, hty, hlen⟩ := at_in hw.toWF hn0 hno
      rw [(pl_in hn0 hno hx hty).2] at hy
      refine fn_ok T Tryz.func37 (by kernel_rfl) rfl rfl rfl rfl fun C hC => ?_
      refine g_go T hC true 400 rfl rfl ?_
      refine g_cond rfl (fun h => ?_) (fun h => ?_)
      · exfalso; exact hn0 (of_decide_eq_true h)
      · repeat' first
          | refine g_go T hC true 400 rfl rfl ?_
          | refine g_cond rfl (fun h => ?_) (fun h => ?_)
          | refine g_end T hC (by kernel_rfl) ?_
          | refine g_splitD (fun h => ?_) (fun h => ?_)
          | refine g_splitG rfl rfl rfl (fun h => ?_) (fun h => ?_)
          | refine g_splitP rfl rfl (fun h => ?_) (fun h => ?_)
          | (rw [hw1]; refine g_idx T hC rfl rfl rfl hn1 (map_atI hx) rfl rfl ?_)
          | (refine g_idx T hC rfl rfl rfl hf0 (map_atI hy) rfl rfl ?_)
        exact g_fin ⟨.inl rfl, id, _, rfl, .refl _, trivial, rfl, rfl⟩
theorem rwrite_off {d : Desc} {m : Hp} (hw : WG d m) {node field : Int} (v : Int) (ho : offF (plF d m node).length field) : FnOK Tryz.prog 35 [aggS (descR d), aggS (memR m), I node, I field, I v] [] (.tup [aggS (memR ⟨[], []⟩), I 2]) [] := by
  have hF := fieldType_ok hw node field
  rw [fldT_off ho] at hF
  refine fn_ok T Tryz.func35 (by kernel_rfl) rfl rfl rfl rfl fun C hC => ?_
  repeat' first
    | refine g_go T hC true 400 rfl rfl ?_
    | refine g_cond rfl (fun h => ?_) (fun h => ?_)
    | refine g_end T hC (by kernel_rfl) ?_
    | refine g_splitD (fun h => ?_) (fun h => ?_)
    | refine g_splitG rfl rfl rfl (fun h => ?_) (fun h => ?_)
    | refine g_splitP rfl rfl (fun h => ?_) (fun h => ?_)
    | refine g_call hC (hF) rfl rfl (LeSs.refl _) rfl rfl rfl ?_
  all_goals first
    | exact g_fin ⟨.inl rfl, id, _, rfl, LeS.tup (.cons (LeS.agg (.cons (.nil 1) (.cons (.nil 2) .nil))) (.cons (.refl _) .nil)), trivial, rfl, rfl⟩
    | (exfalso; exact absurd (of_decide_eq_false h) (by simp))
    | (exfalso; simp_all; done)
theorem rwrite_bad {d : Desc} {m : Hp} (hw : WG d m) {node field v : Int} {f : Fld} (ho : ¬ offF (plF d m node).length field) (hf : (plF d m node)[field.toNat]? = some f) (hne : f.t ≠ (⟨#[]⟩ : ByteArray)) (hr : rightV d m f.t v = false) :
    FnOK Tryz.prog 35 [aggS (descR d), aggS (memR m), I node, I field, I v] [] (.tup [aggS (memR ⟨[], []⟩), I 11]) [] := by
  have hF := fieldType_ok hw node field
  rw [fldT_at ho hf] at hF
  have hR := right_ok d m f.t v
  rw [hr] at hR
  refine fn_ok T Tryz.func35 (by kernel_rfl) rfl rfl rfl rfl fun C hC => ?_
  repeat' first
    | refine g_go T hC true 400 rfl rfl ?_
    | refine g_cond rfl (fun h => ?_) (fun h => ?_)
    | refine g_end T hC (by kernel_rfl) ?_
    | refine g_splitD (fun h => ?_) (fun h => ?_)
    | refine g_splitG rfl rfl rfl (fun h => ?_) (fun h => ?_)
    | refine g_splitP rfl rfl (fun h => ?_) (fun h => ?_)
    | refine g_call hC (hF) rfl rfl (LeSs.refl _) rfl rfl rfl ?_
    | refine g_call hC (hR) rfl rfl (LeSs.refl _) rfl rfl rfl ?_
  all_goals first
    | exact g_fin ⟨.inl rfl, id, _, rfl, LeS.tup (.cons (LeS.agg (.cons (.nil 1) (.cons (.nil 2) .nil))) (.cons (.refl _) .nil)), trivial, rfl, rfl⟩
    | (exfalso; exact hne (of_decide_eq_true h))
    | (exfalso; simp_all; done)
theorem rwrite_ok {d : Desc} {m : Hp} (hval : validM d m = true) {node field v : Int} {f : Fld} (ho : ¬ offF (plF d m node).length field) (hf : (plF d m node)[field.toNat]? = some f) (hne : f.t ≠ (⟨#[]⟩ : ByteArray)) (hr : rightV d m f.t v = true) :
    FnOK Tryz.prog 35 [aggS (descR d), aggS (memR m), I node, I field, I v] [] (.tup [aggS (memR (writeM m node field v)), I 0]) [] := by
  have hw := wg_of hval
  have hF := fieldType_ok hw node field
  rw [fldT_at ho hf] at hF
  have hR := right_ok d m f.t v
  rw [hr] at hR
  have hz := sizes_of hval
  have hsm := hw.small
  rw [pl_len hw] at ho
  obtain ⟨y, hy⟩ := exists_at (l := plV m node) (i := field.toNat) (by unfold offF at ho; omega)
  unfold offF at ho
  have hf0 : 0 ≤ field := by omega
  by_cases hn0 : node = 0
  · subst hn0
    rw [(pl_zero d m).2] at hy ho
    have hlt : field.toNat < m.g.length := (List.getElem?_eq_some_iff.1 hy).1
    have hC1 := copy12_ok m m.n.length hz.1 (by omega) hz.2
    have hwm : writeM m 0 field v = ⟨m.g.set field.toNat v, m.n⟩ := by simp only [writeM, if_true]
    rw [hwm]
    refine fn_ok T Tryz.func35 (by kernel_rfl) rfl rfl rfl rfl fun C hC => ?_
    repeat' first
      | refine g_go T hC true 400 rfl rfl ?_
      | refine g_cond rfl (fun h => ?_) (fun h => ?_)
      | refine g_end T hC (by kernel_rfl) ?_
      | refine g_splitD (fun h => ?_) (fun h => ?_)
      | refine g_splitG rfl rfl rfl (fun h => ?_) (fun h => ?_)
      | refine g_splitP rfl rfl (fun h => ?_) (fun h => ?_)
      | refine g_call hC (hF) rfl rfl (LeSs.refl _) rfl rfl rfl ?_
      | refine g_call hC (hR) rfl rfl (LeSs.refl _) rfl rfl rfl ?_
      | refine g_callR hC (hC1) (nm [141, 142, 143]) rfl rfl (LeSs.refl _) rfl rfl rfl rfl rfl rfl rfl rfl ?_
      | (refine g_idxA T hC (rows := m.g.map intR) rfl rfl rfl rfl hf0 (by rw [List.length_map]; omega) rfl rfl ?_)
      | (refine g_storeE T hC field.toNat 0 (rows := m.g.map intR) (row := intR y) (us := [ki v]) (rows' := (m.g.set field.toNat v).map intR) rfl rfl rfl rfl rfl rfl (by simp) (intsAt hy) (Nat.le_refl 1) (set_mapI _ _ _ _) rfl ?_)
    all_goals first
      | (exfalso; exact hne (of_decide_eq_true h))
      | (exfalso; cases h; done)
      | (exfalso; simp only [Bool.not_eq_true', Bool.not_eq_false', decide_eq_true_eq, decide_eq_false_iff_not] at *; omega)
      | skip
    refine g_dropX rfl 142 rfl (drop_out m.n 143) ?_
    refine g_freeze rfl (id := 142) (e := 2) (rows := m.n.map nodeR) rfl [] trivial [(1010, [.ar 141, .p (nodesP m.n)])] ⟨⟨_, rfl, by decide, .cons (.refl _) (.cons .ar .nil)⟩, trivial⟩ ?_
    refine g_freeze rfl (id := 141) (e := 1) (rows := (m.g.set field.toNat v).map intR) rfl [] trivial [(1010, [.p (intsP (m.g.set field.toNat v)), .p (nodesP m.n)])] ⟨⟨_, rfl, by decide, .cons .ar (.cons (.refl _) .nil)⟩, trivial⟩ ?_
    exact g_fin ⟨.inl rfl, id, _, rfl, .refl _, trivial, rfl, rfl⟩
  · by_cases hno : outN m node
    · rw [(pl_out (d := d) hn0 hno).2] at hy; simp at hy
    · obtain ⟨hw1, hn1, x, ty, hx, ht, hty, hlen⟩ := at_in hw.toWF hn0 hno
      have hC1 := copy12_ok m (node - 1).toNat hz.1 (by omega) hz.2
      rw [fAt_some hx] at hC1
      rw [(pl_in hn0 hno hx hty).2] at hy ho
      have hlt : field.toNat < x.f.length := (List.getElem?_eq_some_iff.1 hy).1
      have hnl : (node - 1).toNat < m.n.length := (List.getElem?_eq_some_iff.1 hx).1
      have hat : ∀ (j : Nat) (u : V), ([.ar 143] : List V)[j]? = some u → ∃ p, (m.n.map nodeR).flatten[(node - 1).toNat * 2 + 1 + j]? = some p ∧ xv [(2 * (node - 1).toNat + 1, .ar 143)] ((node - 1).toNat * 2 + 1 + j) p = u := by
        intro j u hj
        match j, hj with
        | 0, hj =>
          simp only [List.getElem?_cons_zero, Option.some.injEq] at hj; subst hj
          have hr : (m.n.map nodeR)[(node - 1).toNat]? = some (nodeR x) := by rw [List.getElem?_map, hx]; rfl
          exact ⟨intsP x.f, by rw [Nat.add_zero, flat_at (rows_two m.n) (by omega), hr]; rfl, by rw [show (node - 1).toNat * 2 + 1 + 0 = 2 * (node - 1).toNat + 1 by omega, xv_eq]⟩
        | j + 1, hj => simp at hj
      rw [writeM_in hn0 hx]
      refine fn_ok T Tryz.func35 (by kernel_rfl) rfl rfl rfl rfl fun C hC => ?_
      repeat' first
        | refine g_go T hC true 400 rfl rfl ?_
        | refine g_cond rfl (fun h => ?_) (fun h => ?_)
        | refine g_end T hC (by kernel_rfl) ?_
        | refine g_splitD (fun h => ?_) (fun h => ?_)
        | refine g_splitG rfl rfl rfl (fun h => ?_) (fun h => ?_)
        | refine g_splitP rfl rfl (fun h => ?_) (fun h => ?_)
        | refine g_call hC (hF) rfl rfl (LeSs.refl _) rfl rfl rfl ?_
        | refine g_call hC (hR) rfl rfl (LeSs.refl _) rfl rfl rfl ?_
        | refine g_callR hC (hC1) (nm [141, 142, 143]) rfl rfl (LeSs.refl _) rfl rfl rfl rfl rfl rfl rfl rfl ?_
        | (rw [hw1]; refine g_idxV T hC rfl rfl rfl rfl hn1 (by rw [List.length_map]; omega) rfl rfl ?_)
        | (refine g_loadV T hC [.ar 143] rfl rfl rfl hat rfl rfl rfl ?_)
        | (refine g_idxA T hC (rows := x.f.map intR) rfl rfl rfl rfl hf0 (by rw [List.length_map]; omega) rfl rfl ?_)
        | (refine g_storeE T hC field.toNat 0 (rows := x.f.map intR) (row := intR y) (us := [ki v]) (rows' := (x.f.set field.toNat v).map intR) rfl rfl rfl rfl rfl rfl (by simp) (intsAt hy) (Nat.le_refl 1) (set_mapI _ _ _ _) rfl ?_)
      all_goals first
        | (exfalso; exact hne (of_decide_eq_true h))
        | (exfalso; exact hn0 (of_decide_eq_true h))
        | (exfalso; cases h; done)
        | skip
      refine g_freezeR rfl 143 (e := 1) (rows := (x.f.set field.toNat v).map intR) rfl [] trivial [(142, .arv 2 ((m.n.set (node - 1).toNat ⟨x.t, x.f.set field.toNat v⟩).map nodeR) [])] ⟨⟨_, rfl, by decide, fr_node hx _ 143⟩, trivial⟩ ?_
      refine g_toP rfl 142 rfl ?_
      refine g_freeze rfl (id := 142) (e := 2) (rows := (m.n.set (node - 1).toNat ⟨x.t, x.f.set field.toNat v⟩).map nodeR) rfl [] trivial [(1010, [.ar 141, .p (nodesP (m.n.set (node - 1).toNat ⟨x.t, x.f.set field.toNat v⟩))])] ⟨⟨_, rfl, by decide, .cons (.refl _) (.cons .ar .nil)⟩, trivial⟩ ?_
      refine g_freeze rfl (id := 141) (e := 1) (rows := m.g.map intR) rfl [] trivial [(1010, [.p (intsP m.g), .p (nodesP (m.n.set (node - 1).toNat ⟨x.t, x.f.set field.toNat v⟩))])] ⟨⟨_, rfl, by decide, .cons .ar (.cons (.refl _) .nil)⟩, trivial⟩ ?_
      exact g_fin ⟨.inl rfl, id, _, rfl, .refl _, trivial, rfl, rfl⟩
end Hw.Z
namespace Hw.Z
open Go Go.Proofs Hw.M

theorem isName_empty : isName (⟨#[]⟩ : ByteArray) = false := by kernel_rfl
theorem known_ne {d : Desc} (h : hasTypes d = true) {f : Fld} (hk : known d f = true) : f.t ≠ (⟨#[]⟩ : ByteArray) := by
  intro e
  have hp : isPlain f.t = false := by rw [e]; kernel_rfl
  simp only [known, hp, Bool.false_or, Bool.not_eq_true', decide_eq_false_iff_not] at hk
  rw [e, tyIdx] at hk
  rcases idxOf_ge (p := fun t : NodeT => decide (t.n = (⟨#[]⟩ : ByteArray))) (l := d.types) with h1 | ⟨i, x, h1, h2, h3, _⟩
  · rw [h1] at hk; omega
  · have hv := (hasTypes_parts h).1
    simp only [validD, validPre, Bool.and_eq_true] at hv
    have := List.all_eq_true.1 hv.1.1.2 x (List.mem_of_getElem? h2)
    simp only [typeOk, Bool.and_eq_true] at this
    have hn := this.1
    rw [of_decide_eq_true h3, isName_empty] at hn
    cases hn
theorem pl_known {d : Desc} {m : Hp} (hval : validM d m = true) (node : Int) : ∀ f ∈ plF d m node, known d f = true := by
  have h0 : hasTypes d = true := by simp only [validM, Bool.and_eq_true] at hval; exact hval.1.1.1.1.1
  obtain ⟨_, _, hg, ht⟩ := hasTypes_parts h0
  intro f hf
  by_cases hn0 : node = 0
  · subst hn0; rw [(pl_zero d m).1] at hf; exact List.all_eq_true.1 hg f hf
  · by_cases hno : outN m node
    · rw [(pl_out (d := d) hn0 hno).1] at hf; cases hf
    · obtain ⟨_, _, x, ty, hx, _, hty, _⟩ := at_in (wg_of hval).toWF hn0 hno
      rw [(pl_in hn0 hno hx hty).1] at hf
      exact List.all_eq_true.1 (ht ty (List.mem_of_getElem? hty)) f hf
set_option maxHeartbeats 4000000 in
theorem access_core {d : Desc} {m : Hp} {typ node field value : Int} (hg : (greatS d || [m].any manyS) = false) (hval : validM d m = true) {a : Hp} {n e : Int} {y : Hp} {g : Int} {v f : Int} {t : Str}
    (hA : FnOK Tryz.prog 33 [aggS (descR d), aggS (memR m), I typ] [] (.tup [aggS (memR a), I n, I e]) []) (hA' : FnOK Tryz.prog 34 [aggS (descR d), aggS (memR m), I typ] [] (.tup [aggS (memR a), I n, I e]) [])
    (hW : FnOK Tryz.prog 31 [aggS (descR d), aggS (memR m), I node, I field, I value] [] (.tup [aggS (memR y), I g]) []) (hW' : FnOK Tryz.prog 35 [aggS (descR d), aggS (memR m), I node, I field, I value] [] (.tup [aggS (memR y), I g]) [])
    (hR : FnOK Tryz.prog 32 [aggS (descR d), aggS (memR m), I node, I field] [] (.tup [I v, I f]) []) (hT : FnOK Tryz.prog 36 [aggS (descR d), aggS (memR m), I node, I field] [] (Sr t) [])
    (hE : (t = (⟨#[]⟩ : ByteArray) ∧ f = 2 ∧ v = 0) ∨ (t ≠ (⟨#[]⟩ : ByteArray) ∧ f = 0 ∧ FnOK Tryz.prog 37 [aggS (memR m), I node, I field] [] (I v) [])) :
    FnOK Tryz.prog 7 [aggS (descR d), aggS (memR m), I typ, I node, I field, I value] [] (.bq true) [] := by
  have hL := large_ok d [m]
  rw [hg] at hL
  have hV := valid12_ok d m
  rw [hval] at hV
  have hQ1 := equal_ok a a
  have hQ2 := equal_ok y y
  rw [decide_eq_true rfl] at hQ1 hQ2
  rcases hE with ⟨rfl, rfl, rfl⟩ | ⟨ht, rfl, hG⟩
  · refine fn_ok T Tryz.func7 (by kernel_rfl) rfl rfl rfl rfl fun C hC => ?_
    repeat' first
      | refine g_go T hC true 400 rfl rfl ?_
      | refine g_cond rfl (fun h => ?_) (fun h => ?_)
      | refine g_end T hC (by kernel_rfl) ?_
      | refine g_splitD (fun h => ?_) (fun h => ?_)
      | refine g_splitG rfl rfl rfl (fun h => ?_) (fun h => ?_)
      | refine g_splitP rfl rfl (fun h => ?_) (fun h => ?_)
      | refine g_call hC (awake_ok) rfl rfl (LeSs.refl _) rfl rfl rfl ?_
      | refine g_lit T hC rfl rfl rfl rfl rfl rfl rfl rfl rfl ?_
      | refine g_call hC (hL) rfl rfl (LeSs.refl _) rfl rfl rfl ?_
      | refine g_call hC (hA) rfl rfl (LeSs.refl _) rfl rfl rfl ?_
      | refine g_call hC (hR) rfl rfl (LeSs.refl _) rfl rfl rfl ?_
      | refine g_call hC (hW) rfl rfl (LeSs.refl _) rfl rfl rfl ?_
      | refine g_call hC (hV) rfl rfl (LeSs.refl _) rfl rfl rfl ?_
      | refine g_call hC (hA') rfl rfl (LeSs.refl _) rfl rfl rfl ?_
      | refine g_call hC (hW') rfl rfl (LeSs.refl _) rfl rfl rfl ?_
      | refine g_call hC (hQ1) rfl rfl (LeSs.refl _) rfl rfl rfl ?_
      | refine g_call hC (hQ2) rfl rfl (LeSs.refl _) rfl rfl rfl ?_
      | refine g_call hC (hT) rfl rfl (LeSs.refl _) rfl rfl rfl ?_
      | refine g_retq T (.inl rfl) rfl ?_
      | refine g_retl T (.inl rfl) rfl ?_
    all_goals clear hL hV hA hA' hW hW' hR hT hQ1 hQ2
    all_goals first | rfl | (exfalso; simp_all; done)
  · refine fn_ok T Tryz.func7 (by kernel_rfl) rfl rfl rfl rfl fun C hC => ?_
    repeat' first
      | refine g_go T hC true 400 rfl rfl ?_
      | refine g_cond rfl (fun h => ?_) (fun h => ?_)
      | refine g_end T hC (by kernel_rfl) ?_
      | refine g_splitD (fun h => ?_) (fun h => ?_)
      | refine g_splitG rfl rfl rfl (fun h => ?_) (fun h => ?_)
      | refine g_splitP rfl rfl (fun h => ?_) (fun h => ?_)
      | refine g_call hC (awake_ok) rfl rfl (LeSs.refl _) rfl rfl rfl ?_
      | refine g_lit T hC rfl rfl rfl rfl rfl rfl rfl rfl rfl ?_
      | refine g_call hC (hL) rfl rfl (LeSs.refl _) rfl rfl rfl ?_
      | refine g_call hC (hA) rfl rfl (LeSs.refl _) rfl rfl rfl ?_
      | refine g_call hC (hR) rfl rfl (LeSs.refl _) rfl rfl rfl ?_
      | refine g_call hC (hW) rfl rfl (LeSs.refl _) rfl rfl rfl ?_
      | refine g_call hC (hV) rfl rfl (LeSs.refl _) rfl rfl rfl ?_
      | refine g_call hC (hA') rfl rfl (LeSs.refl _) rfl rfl rfl ?_
      | refine g_call hC (hW') rfl rfl (LeSs.refl _) rfl rfl rfl ?_
      | refine g_call hC (hQ1) rfl rfl (LeSs.refl _) rfl rfl rfl ?_
      | refine g_call hC (hQ2) rfl rfl (LeSs.refl _) rfl rfl rfl ?_
      | refine g_call hC (hT) rfl rfl (LeSs.refl _) rfl rfl rfl ?_
      | refine g_call hC (hG) rfl rfl (LeSs.refl _) rfl rfl rfl ?_
      | refine g_retq T (.inl rfl) rfl ?_
      | refine g_retl T (.inl rfl) rfl ?_
    all_goals clear hL hV hA hA' hW hW' hR hT hQ1 hQ2 hG
    all_goals first | rfl | (exfalso; simp_all; done) | exact decide_eq_true rfl
set_option maxHeartbeats 4000000 in
theorem heapAccess_ok (d : Desc) (m : Hp) (typ node field value : Int) : FnOK Tryz.prog 7 [aggS (descR d), aggS (memR m), I typ, I node, I field, I value] [] (.bq true) [] := by
  cases hg : (greatS d || [m].any manyS) with
  | true =>
    have hL := large_ok d [m]
    rw [hg] at hL
    refine fn_ok T Tryz.func7 (by kernel_rfl) rfl rfl rfl rfl fun C hC => ?_
    repeat' first
      | refine g_go T hC true 400 rfl rfl ?_
      | refine g_cond rfl (fun h => ?_) (fun h => ?_)
      | refine g_end T hC (by kernel_rfl) ?_
      | refine g_splitD (fun h => ?_) (fun h => ?_)
      | refine g_splitG rfl rfl rfl (fun h => ?_) (fun h => ?_)
      | refine g_splitP rfl rfl (fun h => ?_) (fun h => ?_)
      | refine g_call hC (awake_ok) rfl rfl (LeSs.refl _) rfl rfl rfl ?_
      | refine g_lit T hC rfl rfl rfl rfl rfl rfl rfl rfl rfl ?_
      | refine g_call hC (hL) rfl rfl (LeSs.refl _) rfl rfl rfl ?_
      | refine g_retq T (.inl rfl) rfl ?_
      | refine g_retl T (.inl rfl) rfl ?_
    all_goals clear hL
    all_goals first | rfl | (exfalso; simp_all; done)
  | false =>
  cases hval : validM d m with
  | false =>
    have hL := large_ok d [m]
    rw [hg] at hL
    have hV := valid12_ok d m
    rw [hval] at hV
    have hN := none_ok ⟨[], []⟩
    rw [show noneS ⟨[], []⟩ = true from rfl] at hN
    refine fn_ok T Tryz.func7 (by kernel_rfl) rfl rfl rfl rfl fun C hC => ?_
    repeat' first
      | refine g_go T hC true 400 rfl rfl ?_
      | refine g_cond rfl (fun h => ?_) (fun h => ?_)
      | refine g_end T hC (by kernel_rfl) ?_
      | refine g_splitD (fun h => ?_) (fun h => ?_)
      | refine g_splitG rfl rfl rfl (fun h => ?_) (fun h => ?_)
      | refine g_splitP rfl rfl (fun h => ?_) (fun h => ?_)
      | refine g_call hC (awake_ok) rfl rfl (LeSs.refl _) rfl rfl rfl ?_
      | refine g_lit T hC rfl rfl rfl rfl rfl rfl rfl rfl rfl ?_
      | refine g_call hC (hL) rfl rfl (LeSs.refl _) rfl rfl rfl ?_
      | refine g_call hC (alloc_no hval typ) rfl rfl (LeSs.refl _) rfl rfl rfl ?_
      | refine g_call hC (read_no hval node field) rfl rfl (LeSs.refl _) rfl rfl rfl ?_
      | refine g_call hC (write_no hval node field value) rfl rfl (LeSs.refl _) rfl rfl rfl ?_
      | refine g_call hC (hV) rfl rfl (LeSs.refl _) rfl rfl rfl ?_
      | refine g_call hC (hN) rfl rfl (LeSs.refl _) rfl rfl rfl ?_
      | refine g_retq T (.inl rfl) rfl ?_
      | refine g_retl T (.inl rfl) rfl ?_
    all_goals clear hL hV hN
    all_goals first | rfl | (exfalso; simp_all; done)
  | true =>
  have hw := wg_of hval
  have h0 : hasTypes d = true := by simp only [validM, Bool.and_eq_true] at hval; exact hval.1.1.1.1.1
  have hmm : manyS m = false := by
    simp only [List.any_cons, List.any_nil, Bool.or_false, Bool.or_eq_false_iff] at hg
    exact hg.2
  have hn60 : m.n.length ≤ 60 := by
    simp only [manyS, Bool.or_eq_false_iff, decide_eq_false_iff_not] at hmm
    omega
  have hR := read_ok hval node field
  have hT := fieldType_ok hw node field
  have hl := pl_len hw node
  -- the allocation
  have hAl : ∃ a n e, FnOK Tryz.prog 33 [aggS (descR d), aggS (memR m), I typ] [] (.tup [aggS (memR a), I n, I e]) [] ∧ FnOK Tryz.prog 34 [aggS (descR d), aggS (memR m), I typ] [] (.tup [aggS (memR a), I n, I e]) [] := by
    by_cases hta : offF d.types.length typ
    · exact ⟨_, _, _, alloc_off hval hta, ralloc_off hta⟩
    · exact ⟨_, _, _, alloc_ok hval hta (by omega), ralloc_ok hval hta (by omega)⟩
  obtain ⟨a, n, e, hA, hA'⟩ := hAl
  by_cases ho : offF (plV m node).length field
  · have ho' : offF (plF d m node).length field := by rw [hl]; exact ho
    rw [if_pos ho, if_pos ho] at hR
    rw [fldT_off ho'] at hT
    exact access_core hg hval hA hA' (write_off hval value ho) (rwrite_off hw value ho') hR hT (.inl ⟨rfl, rfl, rfl⟩)
  · have ho' : ¬ offF (plF d m node).length field := by rw [hl]; exact ho
    obtain ⟨y, hy⟩ := exists_at (l := plV m node) (i := field.toNat) (by unfold offF at ho; omega)
    obtain ⟨f, hf⟩ := exists_at (l := plF d m node) (i := field.toNat) (by unfold offF at ho'; omega)
    have hk := pl_known hval node f (List.mem_of_getElem? hf)
    have hne := known_ne h0 hk
    have hrv := rightM_V (m := m) (v := value) hk
    rw [if_neg ho, if_neg ho, hy, Option.getD_some] at hR
    rw [fldT_at ho' hf] at hT
    have hG := get_ok hw ho hy
    cases hr : rightV d m f.t value with
    | false => exact access_core hg hval hA hA' (write_bad hval ho hf (hrv.trans hr)) (rwrite_bad hw ho' hf hne hr) hR hT (.inr ⟨hne, rfl, hG⟩)
    | true => exact access_core hg hval hA hA' (write_ok hval ho hf (hrv.trans hr)) (rwrite_ok hval ho' hf hne hr) hR hT (.inr ⟨hne, rfl, hG⟩)
end Hw.Z
