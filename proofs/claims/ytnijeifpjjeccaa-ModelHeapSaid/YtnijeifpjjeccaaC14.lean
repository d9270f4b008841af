/- The engine and the contracts. -/
import Derived.Test.YtnijeifpjjeccaaC13
set_option linter.unusedVariables false
set_option linter.unusedSimpArgs false
namespace Hw.Mo
open Go Go.Proofs Go.Shelf Hw.M

/-! models: the chapter's example; queries -/
def awkL : List OpT := [⟨1, [3, 10]⟩, ⟨1, [1, 7]⟩, ⟨1, [3, 11]⟩, ⟨7, [1]⟩, ⟨6, [3]⟩, ⟨4, [2]⟩, ⟨4, [0]⟩]
def awkR : List RsT := [⟨0, 0⟩, ⟨0, 0⟩, ⟨0, 1⟩, ⟨0, 3⟩, ⟨0, 1⟩, ⟨0, 1⟩, ⟨12, 0⟩]
theorem awake_ok : FnOK Try.prog 11 [] [] (.bq true) [] := by
  have hN := new_ok (k := 1) (by decide)
  have hRun := mRun_yes 1 [] awkL (by decide) (by decide) (by decide)
  have e : runS 1 [] awkL = ([[1, 7], [3, 11]], awkR) := by decide
  rw [e] at hRun
  have hS := rSame_ok 1 1 [[1, 7], [3, 11]] [[1, 7], [3, 11]]
  have e2 : (decide ((1 : Int) = 1) && decide (([[1, 7], [3, 11]] : Rws) = [[1, 7], [3, 11]])) = true := by decide
  rw [e2] at hS
  have hQ := sameResults_ok awkR awkR
  rw [decide_eq_true (rfl : awkR = awkR)] at hQ
  refine fn_ok T Try.func11 (by kernel_rfl) rfl rfl rfl rfl fun C hC => ?_
  repeat' first
    | refine g_go T hC true 400 rfl rfl ?_
    | (exfalso; simp at h; done)
    | refine g_cond rfl (fun h => ?_) (fun h => ?_)
    | refine g_end T hC (by kernel_rfl) ?_
    | refine g_splitD (fun h => ?_) (fun h => ?_)
    | refine g_splitG rfl rfl rfl (fun h => ?_) (fun h => ?_)
    | refine g_splitP rfl rfl (fun h => ?_) (fun h => ?_)
    | refine g_call hC (hN) rfl rfl (LeSs.refl _) rfl rfl rfl ?_
    | refine g_lit T hC rfl rfl rfl rfl rfl rfl rfl rfl rfl ?_
    | refine g_call hC (op_ok 1 [3, 10]) rfl rfl (LeSs.refl _) rfl rfl rfl ?_
    | refine g_call hC (op_ok 1 [1, 7]) rfl rfl (LeSs.refl _) rfl rfl rfl ?_
    | refine g_call hC (op_ok 1 [3, 11]) rfl rfl (LeSs.refl _) rfl rfl rfl ?_
    | refine g_call hC (op_ok 7 [1]) rfl rfl (LeSs.refl _) rfl rfl rfl ?_
    | refine g_call hC (op_ok 6 [3]) rfl rfl (LeSs.refl _) rfl rfl rfl ?_
    | refine g_call hC (op_ok 4 [2]) rfl rfl (LeSs.refl _) rfl rfl rfl ?_
    | refine g_call hC (op_ok 4 [0]) rfl rfl (LeSs.refl _) rfl rfl rfl ?_
    | refine g_call hC (hRun) rfl rfl (LeSs.refl _) rfl rfl rfl ?_
    | refine g_call hC (hS) rfl rfl (LeSs.refl _) rfl rfl rfl ?_
    | refine g_call hC (hQ) rfl rfl (LeSs.refl _) rfl rfl rfl ?_
  all_goals exact g_fin ⟨.inl rfl, id, _, rfl, by first | exact .refl _ | exact LeS.qb rfl, trivial, rfl, rfl⟩
theorem ask_ok (k : Int) (R : Rws) (c : Int) (l : List Int) (x : RsT) (hv : validS k R = true) (ho : okOp k ⟨c, l⟩ = true) (he : stepS k R ⟨c, l⟩ = (R, x)) :
    FnOK Try.prog 16 [aggS (stR k R), I c, pS (intsP l)] [] (.tup [aggS (rsR x), .bq true]) [] := by
  have hA := mApply_yes k R ⟨c, l⟩ hv ho
  rw [he] at hA
  have hS := mSame_ok k k R R
  rw [show (decide (k = k) && decide (R = R)) = true by simp] at hS
  have hO := op_ok c l
  refine fn_ok T Try.func16 (by kernel_rfl) rfl rfl rfl rfl fun C hC => ?_
  repeat' first
    | refine g_go T hC true 400 rfl rfl ?_
    | (exfalso; simp at h; done)
    | refine g_cond rfl (fun h => ?_) (fun h => ?_)
    | refine g_end T hC (by kernel_rfl) ?_
    | refine g_splitD (fun h => ?_) (fun h => ?_)
    | refine g_splitG rfl rfl rfl (fun h => ?_) (fun h => ?_)
    | refine g_splitP rfl rfl (fun h => ?_) (fun h => ?_)
    | refine g_call hC (hO) rfl rfl (LeSs.refl _) rfl rfl rfl ?_
    | refine g_call hC (hA) rfl rfl (LeSs.refl _) rfl rfl rfl ?_
    | refine g_call hC (hS) rfl rfl (LeSs.refl _) rfl rfl rfl ?_
  all_goals exact g_fin ⟨.inl rfl, id, _, rfl, by first | exact .refl _ | exact LeS.tup (.cons (.refl _) (.cons (LeS.qb rfl) .nil)), trivial, rfl, rfl⟩
end Hw.Mo
namespace Hw.Mo
open Go Go.Proofs Go.Shelf Hw.M

/-! models: the law of heaps -/
abbrev I16 := {n : Int // -32768 ≤ n ∧ n ≤ 32767}
def i16R (x : I16) : List PV := [.k (.int .i16 x.1)]
def rowsS (l : List Int) : Rws := l.map fun x => [x]
theorem rowsS_len (l : List Int) : (rowsS l).length = l.length := List.length_map _
theorem rowsS_at {l : List Int} {i : Nat} {x : Int} (h : l[i]? = some x) : (rowsS l)[i]? = some [x] := by rw [rowsS, List.getElem?_map, h]; rfl
theorem map_rowsS (l : List Int) : (rowsS l).map (fun r => at0 r 0) = l := by
  unfold rowsS; rw [List.map_map]; conv => rhs; rw [← List.map_id l]
  rfl
theorem rows_rowsS {p : Rw → Rw → Bool} : ∀ {R : Rws}, TabOk 1 p R → R = rowsS (R.map fun r => at0 r 0)
  | [], _ => rfl
  | r :: R, h => by
    obtain ⟨x, rfl⟩ := len1 (h.wide r (List.mem_cons_self ..))
    have := rows_rowsS (R := R) ⟨fun r hr => h.wide r (List.mem_cons_of_mem _ hr), fun r hr => h.nums r (List.mem_cons_of_mem _ hr), (List.pairwise_cons.1 h.asc).2⟩
    simp only [rowsS, List.map_cons, List.map_map] at this ⊢
    rw [← this]; rfl
theorem heap_asc {R : Rws} (h : TabOk 1 (fun a b => !ltC 1 b a) R) : (R.map fun r => at0 r 0).Pairwise (· ≤ ·) := by
  rw [List.pairwise_map]
  refine h.asc.imp_of_mem fun {a b} ha hb hp => ?_
  have na : a ≠ [] := fun e => by have := h.wide a ha; rw [e] at this; simp at this
  have nb : b ≠ [] := fun e => by have := h.wide b hb; rw [e] at this; simp at this
  simp only [ltC_one nb na, Bool.not_eq_true', decide_eq_false_iff_not] at hp
  omega
theorem heap_rows {R : Rws} (h : TabOk 1 (fun a b => !ltC 1 b a) R) {l : List Int} (hp : (R.map fun r => at0 r 0).Perm l) : R = rowsS (sortI l) := by
  rw [rows_rowsS h]
  congr 1
  exact asc_uniq (hp.trans (sortI_perm l).symm) (heap_asc h) (sortI_asc l)
theorem heap_mk {l : List Int} (hl : l.length ≤ 500) (hn : ∀ x ∈ l, numB x = true) (ha : l.Pairwise (· ≤ ·)) : validS 2 (rowsS l) = true := by
  refine mk2 (by rw [rowsS_len]; exact hl) ⟨fun r hr => ?_, fun r hr => ?_, ?_⟩
  · obtain ⟨x, _, rfl⟩ := List.mem_map.1 hr; rfl
  · obtain ⟨x, hx, rfl⟩ := List.mem_map.1 hr
    intro y hy
    have : y = x := by simpa using hy
    rw [this]; exact hn x hx
  · rw [rowsS, List.pairwise_map]
    refine ha.imp fun {a b} hab => ?_
    simp only [ltC_one (a := [b]) (b := [a]) (by simp) (by simp), Bool.not_eq_true', decide_eq_false_iff_not, at0]
    simp; omega
theorem heap_ins {l : List Int} {a : Int} (hl : l.length < 500) (hn : ∀ x ∈ l, numB x = true) (ha : numB a = true) : stepS 2 (rowsS (sortI l)) ⟨1, [a]⟩ = (rowsS (sortI (l ++ [a])), okR 0) := by
  have hsl : (rowsS (sortI l)).length = l.length := by rw [rowsS_len, sortI_len]
  have hv := heap_mk (l := sortI l) (by rw [sortI_len]; omega) (fun x hx => hn x ((sortI_perm l).mem_iff.1 hx)) (sortI_asc l)
  have ho : okOp 2 ⟨1, [a]⟩ = true := by
    simp only [okOp, wordsL]; simp [ha]
  have hv2 := step_valid hv ho
  have e : stepS 2 (rowsS (sortI l)) ⟨1, [a]⟩ = (insR (rowsS (sortI l)) (posC 1 (rowsS (sortI l)) [a]) [a], okR 0) := by
    have e1 : stepS 2 (rowsS (sortI l)) ⟨1, [a]⟩ = heapS (rowsS (sortI l)) ⟨1, [a]⟩ := by simp only [stepS]; rfl
    rw [e1]
    simp only [heapS]
    rw [if_neg (by decide), if_pos trivial, if_neg (by omega)]
  rw [e] at hv2 ⊢
  have hT : TabOk 1 (fun a b => !ltC 1 b a) (insR (rowsS (sortI l)) (posC 1 (rowsS (sortI l)) [a]) [a]) := (valid2 hv2).2
  have hfin := heap_rows hT (l := l ++ [a]) ?_
  · rw [← hfin]
  simp only [insR, List.map_append, List.map_cons]
  refine List.perm_middle.trans ?_
  rw [← List.map_append, List.take_append_drop, map_rowsS]
  exact ((sortI_perm l).cons _).trans (List.perm_append_singleton _ _).symm
theorem heap_min {l : List Int} {j : Nat} {x : Int} (hj : l[j]? = some x) (c : Int) (hc : c = 2 ∨ c = 3) : stepS 2 (rowsS (l.drop j)) ⟨c, []⟩ = (if c = 3 then rowsS (l.drop (j + 1)) else rowsS (l.drop j), okR x) := by
  have hd := dropI hj
  have hl : (rowsS (l.drop j)).length = (l.drop (j + 1)).length + 1 := by rw [rowsS_len, hd, List.length_cons]
  show heapS _ _ = _
  simp only [heapS]
  rw [if_neg (by omega), if_neg (by omega), if_neg (by omega)]
  have h0 : rowA (rowsS (l.drop j)) 0 = [x] := by rw [hd]; rfl
  rw [h0]
  have he : (rowsS (l.drop j)).eraseIdx 0 = rowsS (l.drop (j + 1)) := by rw [hd]; rfl
  rw [he]; rfl
theorem modelHeap_ok (l : List I16) : FnOK Try.prog 4 [pS (.sl 1 (l.map i16R))] [] (.bq true) [] := by
  have hrl : (l.map i16R).length = l.length := List.length_map _
  by_cases h40 : 40 < l.length
  · refine fn_ok T Try.func4 (by kernel_rfl) rfl rfl rfl rfl fun C hC => ?_
    repeat' first
      | refine g_go T hC true 400 rfl rfl ?_
      | (exfalso; simp at h; done)
      | (exfalso; first | (simp only [decide_eq_true_eq, decide_eq_false_iff_not, List.length_map, Bool.not_eq_true', Bool.not_eq_false'] at *; omega) | (simp at h; done))
      | refine g_cond rfl (fun h => ?_) (fun h => ?_)
      | refine g_end T hC (by kernel_rfl) ?_
      | refine g_splitD (fun h => ?_) (fun h => ?_)
      | refine g_splitG rfl rfl rfl (fun h => ?_) (fun h => ?_)
      | refine g_splitP rfl rfl (fun h => ?_) (fun h => ?_)
      | refine g_call hC (awake_ok) rfl rfl (LeSs.refl _) rfl rfl rfl ?_
    all_goals exact g_fin ⟨.inl rfl, id, _, rfl, .refl _, trivial, rfl, rfl⟩
  generalize hw : l.map (fun x : I16 => x.1) = w
  have hwl : w.length = l.length := by rw [← hw, List.length_map]
  have hwn : ∀ x ∈ w, numB x = true := fun x hx => by
    rw [← hw] at hx
    obtain ⟨y, _, rfl⟩ := List.mem_map.1 hx
    have := y.2
    rw [numB_iff]; omega
  have hN := new_ok (k := 2) (by decide)
  refine fn_ok T Try.func4 (by kernel_rfl) rfl rfl rfl rfl fun C hC => ?_
  repeat' first
    | refine g_go T hC true 400 rfl rfl ?_
    | (exfalso; simp at h; done)
    | (exfalso; first | (simp only [decide_eq_true_eq, decide_eq_false_iff_not, List.length_map, Bool.not_eq_true', Bool.not_eq_false'] at *; omega) | (simp at h; done))
    | refine g_cond rfl (fun h => ?_) (fun h => ?_)
    | refine g_end T hC (by kernel_rfl) ?_
    | refine g_splitD (fun h => ?_) (fun h => ?_)
    | refine g_splitG rfl rfl rfl (fun h => ?_) (fun h => ?_)
    | refine g_splitP rfl rfl (fun h => ?_) (fun h => ?_)
    | refine g_call hC (awake_ok) rfl rfl (LeSs.refl _) rfl rfl rfl ?_
    | refine g_call hC (hN) rfl rfl (LeSs.refl _) rfl rfl rfl ?_
  refine g_adopt hC rfl 103 1 rfl [(5, .one (.ar 103))] ⟨⟨_, rfl, AdS.nil⟩, trivial⟩ [] trivial ?_
  rw [hrl]
  refine g_loop (fun i : Nat => i ≤ l.length) (fun i => ([(3, .one (.bx 1003 0)), (5, .one (.ar 103)), (34, pS (.sl 1 (l.map i16R))), (35, I l.length), (36, I i)], [(103, some (.arr 1 ((w.take i).map intR))), (1003, some (.box [.p (ki 2), .p (rowsP (rowsS (sortI (w.take i))))]))])) (fun i => l.length - i) hC
    0 (Nat.zero_le _) id ⟨rfl, ⟨rfl, rfl, rfl, rfl, rfl, trivial⟩, ⟨rfl, by rw [show rowsS (sortI (w.take 0)) = [] by simp [sortI, rowsS]]; rfl, trivial⟩, rfl, fun _ _ => rfl⟩ ?_
  intro i hi
  refine g_run' T hC true 200 rfl ?_
  refine g_cond rfl (fun h => ?_) (fun h => ?_)
  · have hlt : i < l.length := by simpa using h
    clear h
    obtain ⟨x, hx⟩ := exists_at hlt
    have hxw : w[i]? = some x.1 := by rw [← hw, List.getElem?_map, hx]; rfl
    have hsn := take_snoc hxw
    have hxn := hwn x.1 (List.mem_of_getElem? hxw)
    have htl : (w.take i).length = i := by rw [List.length_take]; omega
    have hst := heap_ins (l := w.take i) (a := x.1) (by omega) (fun y hy => hwn y (List.mem_of_mem_take hy)) hxn
    have hA := mApply_yes 2 (rowsS (sortI (w.take i))) ⟨1, [x.1]⟩ (heap_mk (by rw [sortI_len]; omega) (fun y hy => hwn y (List.mem_of_mem_take ((sortI_perm _).mem_iff.1 hy))) (sortI_asc _)) (by simp only [okOp, wordsL]; simp [hxn])
    rw [hst, ← hsn] at hA
    have hml : ((w.take i).map intR).length = i := by rw [List.length_map, htl]
    have hwx := x.2
    have hwr : IntKind.i64.wrap x.1 = x.1 := wrap64 (by omega)
    repeat' first
      | refine g_go T hC true 400 rfl rfl ?_
      | (exfalso; simp at h; done)
      | (exfalso; first | (simp only [decide_eq_true_eq, decide_eq_false_iff_not, List.length_map, Bool.not_eq_true', Bool.not_eq_false'] at *; omega) | (simp at h; done))
      | refine g_cond rfl (fun h => ?_) (fun h => ?_)
      | refine g_end T hC (by kernel_rfl) ?_
      | refine g_splitD (fun h => ?_) (fun h => ?_)
      | refine g_splitG rfl rfl rfl (fun h => ?_) (fun h => ?_)
      | refine g_splitP rfl rfl (fun h => ?_) (fun h => ?_)
      | refine g_idx T hC rfl rfl rfl (Int.natCast_nonneg _) (map_at hx) rfl rfl ?_
      | refine g_lit T hC rfl rfl rfl rfl rfl rfl rfl rfl rfl ?_
      | (rw [hwr]; refine g_call hC (op_ok 1 [x.1]) rfl rfl (LeSs.refl _) rfl rfl rfl ?_)
      | refine g_call hC (hA) rfl rfl (LeSs.refl _) rfl rfl rfl ?_
      | (rw [hwr]; refine g_append T 106 hC (id := 103) (rows := (w.take i).map intR) (rows2 := [intR x.1]) (rows3 := (w.take (i + 1)).map intR) (bytes := 8) rfl rfl rfl rfl (SrcS.sl (T.es_ok _ _ rfl)) (by rw [hsn, List.map_append]; rfl) rfl rfl rfl (by kernel_rfl) (by rw [hml, List.length_singleton]; omega) (by rw [hml, List.length_singleton]; omega) rfl rfl rfl ?_)
    rw [wrapS (by omega)]
    exact g_round (i + 1) (by omega) (mvU 103 106) (by omega) ⟨rfl, ⟨rfl, rfl, rfl, rfl, rfl, trivial⟩, ⟨rfl, rfl, trivial⟩, rfl, fun i hi => mvU_low (by omega) hi⟩
  · have hge : ¬ i < l.length := by simpa using h
    have e : w.take i = w := List.take_of_length_le (by omega)
    rw [e]
    clear h
    have hS := sort_ok w (by omega)
    have hSl := sortI_len w
    have hSn : ∀ x ∈ sortI w, numB x = true := fun x hx => hwn x ((sortI_perm w).mem_iff.1 hx)
    have hSa := sortI_asc w
    generalize sortI w = S at *
    have hSml : (S.map intR).length = S.length := List.length_map _
    repeat' first
      | refine g_go T hC true 400 rfl rfl ?_
      | refine g_cond rfl (fun h => ?_) (fun h => ?_)
      | refine g_end T hC (by kernel_rfl) ?_
      | refine g_splitD (fun h => ?_) (fun h => ?_)
      | refine g_splitG rfl rfl rfl (fun h => ?_) (fun h => ?_)
      | refine g_splitP rfl rfl (fun h => ?_) (fun h => ?_)
      | refine g_outE ?_
      | refine g_callR hC (hS) (nm [103]) rfl rfl (LeSs.refl _) rfl rfl rfl rfl rfl rfl rfl rfl ?_
    refine g_freeze rfl (id := 103) (e := 1) (rows := S.map intR) rfl [(61, pS (intsP S))] ⟨⟨_, rfl, FrS.ar⟩, trivial⟩ [] trivial ?_
    rw [hSml]
    have hval : ∀ j, validS 2 (rowsS (S.drop j)) = true := fun j => heap_mk (by rw [List.length_drop]; omega) (fun x hx => hSn x (List.mem_of_mem_drop hx)) (hSa.sublist (List.drop_sublist _ _))
    refine g_loop (fun j : Nat => j ≤ S.length) (fun j => ([(3, .one (.bx 1003 0)), (61, pS (intsP S)), (62, I S.length), (63, I j)], [(1003, some (.box [.p (ki 2), .p (rowsP (rowsS (S.drop j)))]))])) (fun j => S.length - j) hC
      0 (Nat.zero_le _) id ⟨rfl, ⟨rfl, rfl, rfl, rfl, trivial⟩, ⟨rfl, trivial⟩, rfl, fun _ _ => rfl⟩ ?_
    intro j hj
    refine g_run' T hC true 200 rfl ?_
    refine g_cond rfl (fun h => ?_) (fun h => ?_)
    · have hlt : j < S.length := by simpa using h
      clear h
      obtain ⟨x, hx⟩ := exists_at hlt
      have hK := ask_ok 2 (rowsS (S.drop j)) 2 [] (okR x) (hval j) (by decide) (heap_min hx 2 (.inl rfl))
      have hD := mApply_yes 2 (rowsS (S.drop j)) ⟨3, []⟩ (hval j) (by decide)
      rw [heap_min hx 3 (.inr rfl)] at hD
      have hQ := sameRes_ok (okR x) (okR x)
      rw [decide_eq_true (rfl : okR x = okR x)] at hQ
      repeat' first
        | refine g_go T hC true 400 rfl rfl ?_
        | (exfalso; simp at h; done)
        | refine g_cond rfl (fun h => ?_) (fun h => ?_)
        | refine g_end T hC (by kernel_rfl) ?_
        | refine g_splitD (fun h => ?_) (fun h => ?_)
        | refine g_splitG rfl rfl rfl (fun h => ?_) (fun h => ?_)
        | refine g_splitP rfl rfl (fun h => ?_) (fun h => ?_)
        | refine g_idx T hC rfl rfl rfl (Int.natCast_nonneg _) (map_at hx) rfl rfl ?_
        | (refine g_call hC hK rfl rfl (LeSs.cons (.refl _) (LeSs.cons (.refl _) (LeSs.cons (LeS.one (.nil 1)) .nil))) rfl rfl rfl ?_)
        | (refine g_call hC (op_ok 3 []) rfl rfl (LeSs.cons (.refl _) (LeSs.cons (LeS.one (.nil 1)) .nil)) rfl rfl rfl ?_)
        | refine g_call hC (hD) rfl rfl (LeSs.refl _) rfl rfl rfl ?_
        | refine g_call hC (hQ) rfl rfl (LeSs.refl _) rfl rfl rfl ?_
      rw [wrapS (by omega)]
      exact g_round (j + 1) (by omega) id (by omega) ⟨rfl, ⟨rfl, rfl, rfl, rfl, trivial⟩, ⟨rfl, trivial⟩, rfl, fun _ _ => rfl⟩
    · have hge : ¬ j < S.length := by simpa using h
      have e : S.drop j = [] := List.drop_of_length_le (by omega)
      rw [e]
      have hK := ask_ok 2 (rowsS []) 2 [] (erR 14) (by decide) (by decide) (by decide)
      have hQ := sameRes_ok (erR 14) (erR 14)
      rw [decide_eq_true (rfl : erR 14 = erR 14)] at hQ
      repeat' first
        | refine g_go T hC true 400 rfl rfl ?_
        | (exfalso; simp at h; done)
        | refine g_cond rfl (fun h => ?_) (fun h => ?_)
        | refine g_end T hC (by kernel_rfl) ?_
        | refine g_splitD (fun h => ?_) (fun h => ?_)
        | refine g_splitG rfl rfl rfl (fun h => ?_) (fun h => ?_)
        | refine g_splitP rfl rfl (fun h => ?_) (fun h => ?_)
        | refine g_outE ?_
        | (refine g_call hC hK rfl rfl (LeSs.cons (.refl _) (LeSs.cons (.refl _) (LeSs.cons (LeS.one (.nil 1)) .nil))) rfl rfl rfl ?_)
        | refine g_call hC (hQ) rfl rfl (LeSs.refl _) rfl rfl rfl ?_
      all_goals exact g_fin ⟨.inl rfl, id, _, rfl, by first | exact .refl _ | exact LeS.qb rfl, trivial, rfl, rfl⟩
end Hw.Mo
