/- The engine and the contracts. -/
import Derived.Test.YtnijeifpjjeccaaGreatC19
set_option linter.unusedVariables false
set_option linter.unusedSimpArgs false
namespace Hw.Mz
open Go Go.Proofs Go.Shelf Hw.M

/-! models: the law of Run -/
theorem run_app (k : Int) : ∀ (R : Rws) (a b : List OpT), runS k R (a ++ b) = ((runS k (runS k R a).1 b).1, (runS k R a).2 ++ (runS k (runS k R a).1 b).2)
  | R, [], b => rfl
  | R, o :: a, b => by simp only [List.cons_append, runS, run_app k (stepS k R o).1 a b]
theorem run_at {k : Int} {R : Rws} {l : List OpT} {i : Nat} {o : OpT} (h : l[i]? = some o) : (runS k R l).2[i]? = some (stepS k (runS k R (l.take i)).1 o).2 := by
  obtain ⟨hlt, he⟩ := List.getElem?_eq_some_iff.1 h
  have hd : l.drop i = o :: l.drop (i + 1) := by rw [List.drop_eq_getElem_cons hlt, he]
  have e : l = l.take i ++ o :: l.drop (i + 1) := by rw [← hd, List.take_append_drop]
  have hl : (runS k R (l.take i)).2.length = i := by rw [run_len, List.length_take]; omega
  conv => lhs; rw [e]
  rw [run_app, List.getElem?_append_right (by omega), hl, Nat.sub_self]
  rfl
theorem last_ok {k : Int} (hk : 1 ≤ k ∧ k ≤ 6) : okOp k ⟨((namesL k).length : Int), []⟩ = true := by
  obtain ⟨h1, h2⟩ := hk
  have : k = 1 ∨ k = 2 ∨ k = 3 ∨ k = 4 ∨ k = 5 ∨ k = 6 := by omega
  rcases this with rfl | rfl | rfl | rfl | rfl | rfl <;> decide
theorem runs_out (k : Int) (R : Rws) (l : List OpT) (m : Bool) (h0 : fewB R = false ∨ shortB l = false) : FnOK Tryz.prog 4 [aggS (stR k R), pS (opsP l), Bo m] [] (.bq true) [] := by
  have hL1 := few_ok k R
  have hL3 := short_ok l
  cases h1 : fewB R with
  | false =>
    rw [h1] at hL1
    refine fn_ok T Tryz.func4 (by kernel_rfl) rfl rfl rfl rfl fun C hC => ?_
    repeat' first
      | refine g_go T hC true 400 rfl rfl ?_
      | (exfalso; simp at h; done)
      | refine g_cond rfl (fun h => ?_) (fun h => ?_)
      | refine g_end T hC (by kernel_rfl) ?_
      | refine g_splitD (fun h => ?_) (fun h => ?_)
      | refine g_splitG rfl rfl rfl (fun h => ?_) (fun h => ?_)
      | refine g_splitP rfl rfl (fun h => ?_) (fun h => ?_)
      | refine g_call hC (awake_ok) rfl rfl (LeSs.refl _) rfl rfl rfl ?_
      | refine g_call hC (hL1) rfl rfl (LeSs.refl _) rfl rfl rfl ?_
      | refine g_call hC (hL3) rfl rfl (LeSs.refl _) rfl rfl rfl ?_
    all_goals exact g_fin ⟨.inl rfl, id, _, rfl, .refl _, trivial, rfl, rfl⟩
  | true =>
    rw [h1] at hL1
    rw [h0.resolve_left (by rw [h1]; decide)] at hL3
    refine fn_ok T Tryz.func4 (by kernel_rfl) rfl rfl rfl rfl fun C hC => ?_
    repeat' first
      | refine g_go T hC true 400 rfl rfl ?_
      | (exfalso; simp at h; done)
      | refine g_cond rfl (fun h => ?_) (fun h => ?_)
      | refine g_end T hC (by kernel_rfl) ?_
      | refine g_splitD (fun h => ?_) (fun h => ?_)
      | refine g_splitG rfl rfl rfl (fun h => ?_) (fun h => ?_)
      | refine g_splitP rfl rfl (fun h => ?_) (fun h => ?_)
      | refine g_call hC (awake_ok) rfl rfl (LeSs.refl _) rfl rfl rfl ?_
      | refine g_call hC (hL1) rfl rfl (LeSs.refl _) rfl rfl rfl ?_
      | refine g_call hC (hL3) rfl rfl (LeSs.refl _) rfl rfl rfl ?_
    all_goals exact g_fin ⟨.inl rfl, id, _, rfl, .refl _, trivial, rfl, rfl⟩
theorem runs_no (k : Int) (R : Rws) (l : List OpT) (m : Bool) (h1 : fewB R = true) (h3 : shortB l = true) (hm : m = false ∨ validS k R = false) (h0 : validS k R = false ∨ l.all (okOp k) = false) : FnOK Tryz.prog 4 [aggS (stR k R), pS (opsP l), Bo m] [] (.bq true) [] := by
  have hL1 := few_ok k R
  have hL3 := short_ok l
  rw [h1] at hL1
  rw [h3] at hL3
  obtain ⟨f1, f2⟩ := few_len' h1
  have hV := rValid_ok k R f2 f1
  have hO := rValidAll_ok k l
  have hall : validS k R = false ∨ (l.any fun o => !okOp k o) = true := h0.imp id fun h => by
    rw [List.any_eq_not_all_not]
    simpa using h
  have hA := mRun_no k R l f2 f1 hall
  have hN := none_ok 0 []
  rw [show (decide ((0 : Int) = 0) && decide (([] : Rws) = [])) = true by simp] at hN
  cases m with
  | false =>
    cases hv : validS k R with
    | false =>
      rw [hv] at hV
      refine fn_ok T Tryz.func4 (by kernel_rfl) rfl rfl rfl rfl fun C hC => ?_
      repeat' first
        | refine g_go T hC true 400 rfl rfl ?_
        | (exfalso; simp at h; done)
        | refine g_cond rfl (fun h => ?_) (fun h => ?_)
        | refine g_end T hC (by kernel_rfl) ?_
        | refine g_splitD (fun h => ?_) (fun h => ?_)
        | refine g_splitG rfl rfl rfl (fun h => ?_) (fun h => ?_)
        | refine g_splitP rfl rfl (fun h => ?_) (fun h => ?_)
        | refine g_call hC (awake_ok) rfl rfl (LeSs.refl _) rfl rfl rfl ?_
        | refine g_call hC (hL1) rfl rfl (LeSs.refl _) rfl rfl rfl ?_
        | refine g_call hC (hL3) rfl rfl (LeSs.refl _) rfl rfl rfl ?_
        | refine g_call hC (hV) rfl rfl (LeSs.refl _) rfl rfl rfl ?_
        | refine g_call hC (hA) rfl rfl (LeSs.refl _) rfl rfl rfl ?_
        | refine g_call hC (hO) rfl rfl (LeSs.refl _) rfl rfl rfl ?_
        | refine g_call hC (hN) rfl rfl (LeSs.refl _) rfl rfl rfl ?_
      all_goals exact g_fin ⟨.inl rfl, id, _, rfl, by first | exact .refl _ | exact LeS.qb rfl | exact LeS.qq rfl, trivial, rfl, rfl⟩
    | true =>
      rw [hv] at hV
      rw [h0.resolve_left (by rw [hv]; decide)] at hO
      refine fn_ok T Tryz.func4 (by kernel_rfl) rfl rfl rfl rfl fun C hC => ?_
      repeat' first
        | refine g_go T hC true 400 rfl rfl ?_
        | (exfalso; simp at h; done)
        | refine g_cond rfl (fun h => ?_) (fun h => ?_)
        | refine g_end T hC (by kernel_rfl) ?_
        | refine g_splitD (fun h => ?_) (fun h => ?_)
        | refine g_splitG rfl rfl rfl (fun h => ?_) (fun h => ?_)
        | refine g_splitP rfl rfl (fun h => ?_) (fun h => ?_)
        | refine g_call hC (awake_ok) rfl rfl (LeSs.refl _) rfl rfl rfl ?_
        | refine g_call hC (hL1) rfl rfl (LeSs.refl _) rfl rfl rfl ?_
        | refine g_call hC (hL3) rfl rfl (LeSs.refl _) rfl rfl rfl ?_
        | refine g_call hC (hV) rfl rfl (LeSs.refl _) rfl rfl rfl ?_
        | refine g_call hC (hA) rfl rfl (LeSs.refl _) rfl rfl rfl ?_
        | refine g_call hC (hO) rfl rfl (LeSs.refl _) rfl rfl rfl ?_
        | refine g_call hC (hN) rfl rfl (LeSs.refl _) rfl rfl rfl ?_
      all_goals exact g_fin ⟨.inl rfl, id, _, rfl, by first | exact .refl _ | exact LeS.qb rfl | exact LeS.qq rfl, trivial, rfl, rfl⟩
  | true =>
    have hv : validS k R = false := hm.resolve_left (by decide)
    rw [hv] at hV
    refine fn_ok T Tryz.func4 (by kernel_rfl) rfl rfl rfl rfl fun C hC => ?_
    repeat' first
      | refine g_go T hC true 400 rfl rfl ?_
      | (exfalso; simp at h; done)
      | refine g_cond rfl (fun h => ?_) (fun h => ?_)
      | refine g_end T hC (by kernel_rfl) ?_
      | refine g_splitD (fun h => ?_) (fun h => ?_)
      | refine g_splitG rfl rfl rfl (fun h => ?_) (fun h => ?_)
      | refine g_splitP rfl rfl (fun h => ?_) (fun h => ?_)
      | refine g_call hC (awake_ok) rfl rfl (LeSs.refl _) rfl rfl rfl ?_
      | refine g_call hC (hL1) rfl rfl (LeSs.refl _) rfl rfl rfl ?_
      | refine g_call hC (hL3) rfl rfl (LeSs.refl _) rfl rfl rfl ?_
      | refine g_call hC (hV) rfl rfl (LeSs.refl _) rfl rfl rfl ?_
      | refine g_call hC (hA) rfl rfl (LeSs.refl _) rfl rfl rfl ?_
      | refine g_call hC (hO) rfl rfl (LeSs.refl _) rfl rfl rfl ?_
      | refine g_call hC (hN) rfl rfl (LeSs.refl _) rfl rfl rfl ?_
    all_goals exact g_fin ⟨.inl rfl, id, _, rfl, by first | exact .refl _ | exact LeS.qb rfl | exact LeS.qq rfl, trivial, rfl, rfl⟩
set_option maxHeartbeats 1000000 in
theorem runs_yes0 (k : Int) (R : Rws) (l : List OpT) (h1 : fewB R = true) (h3 : shortB l = true) (hv : validS k R = true) (hok : ∀ o ∈ l, okOp k o = true) : FnOK Tryz.prog 4 [aggS (stR k R), pS (opsP l), Bo false] [] (.bq true) [] := by
  have hL1 := few_ok k R
  have hL3 := short_ok l
  rw [h1] at hL1
  rw [h3] at hL3
  obtain ⟨f1, f2⟩ := few_len' h1
  obtain ⟨_, hk⟩ := valid_kind hv
  have hV := rValid_ok k R f2 f1
  rw [hv] at hV
  have hl40 : l.length ≤ 40 := by
    have := h3
    unfold shortB at this
    simp only [Bool.and_eq_true, decide_eq_true_eq] at this
    omega
  have hO := rValidAll_ok k l
  have hN := none_ok 0 []
  rw [show (decide ((0 : Int) = 0) && decide (([] : Rws) = [])) = true by simp] at hN
  rw [List.all_eq_true.2 hok] at hO
  have hany : (l.any fun o => !okOp k o) = false := by
    rw [List.any_eq_false]
    intro o ho
    rw [hok o ho]; decide
  have hA := mRun_yes k R l hv hany (by omega)
  have hS := steps_ok k R l hv hok (by omega)
  have hSm := rSame_ok k k (runS k R l).1 (runS k R l).1
  rw [show (decide (k = k) && decide ((runS k R l).1 = (runS k R l).1)) = true by simp] at hSm
  have hQ := sameResults_ok (runS k R l).2 (runS k R l).2
  rw [decide_eq_true rfl] at hQ
  have hat := fun i o (h : l[i]? = some o) => run_at (k := k) (R := R) h
  have hlm : (l.map opR).length = l.length := List.length_map _
  obtain ⟨Rn, hRn⟩ : ∃ z, (runS k R l).1 = z := ⟨_, rfl⟩
  obtain ⟨xs, hxs⟩ : ∃ z, (runS k R l).2 = z := ⟨_, rfl⟩
  rw [hRn, hxs] at hA hS
  rw [hRn] at hSm
  rw [hxs] at hQ
  simp only [hxs] at hat
  refine fn_ok T Tryz.func4 (by kernel_rfl) rfl rfl rfl rfl fun C hC => ?_
  repeat' first
    | refine g_go T hC true 400 rfl rfl ?_
    | (exfalso; simp at h; done)
    | refine g_cond rfl (fun h => ?_) (fun h => ?_)
    | refine g_end T hC (by kernel_rfl) ?_
    | refine g_splitD (fun h => ?_) (fun h => ?_)
    | refine g_splitG rfl rfl rfl (fun h => ?_) (fun h => ?_)
    | refine g_splitP rfl rfl (fun h => ?_) (fun h => ?_)
    | refine g_call hC (awake_ok) rfl rfl (LeSs.refl _) rfl rfl rfl ?_
    | refine g_call hC (hL1) rfl rfl (LeSs.refl _) rfl rfl rfl ?_
    | refine g_call hC (hL3) rfl rfl (LeSs.refl _) rfl rfl rfl ?_
    | refine g_call hC (hV) rfl rfl (LeSs.refl _) rfl rfl rfl ?_
    | refine g_call hC (hA) rfl rfl (LeSs.refl _) rfl rfl rfl ?_
    | refine g_call hC (hO) rfl rfl (LeSs.refl _) rfl rfl rfl ?_
    | refine g_call hC (hS) rfl rfl (LeSs.refl _) rfl rfl rfl ?_
    | refine g_call hC (hSm) rfl rfl (LeSs.refl _) rfl rfl rfl ?_
    | refine g_call hC (hQ) rfl rfl (LeSs.refl _) rfl rfl rfl ?_
  rw [hlm]
  refine g_loop (fun i : Nat => i ≤ l.length) (fun i => ([(3, .one (.bx 1003 0)), (10, .one (.bx 1010 0)), (11, pS (rssP xs)), (116, pS (opsP l)), (117, I l.length), (118, I i)], [(1003, some (.box [.p (ki k), .p (rowsP (runS k R (l.take i)).1)])), (1010, some (.box [.p (ki k), .p (rowsP Rn)]))])) (fun i => l.length - i) hC
    0 (Nat.zero_le _) id ⟨rfl, ⟨rfl, rfl, rfl, rfl, rfl, rfl, trivial⟩, ⟨rfl, rfl, trivial⟩, rfl, fun _ _ => rfl⟩ ?_
  intro i hi
  refine g_run' T hC true 200 rfl ?_
  refine g_cond rfl (fun h => ?_) (fun h => ?_)
  · have hlt : i < l.length := by have := of_decide_eq_true h; omega
    clear h
    obtain ⟨o, ho⟩ := exists_at hlt
    have hx := hat i o ho
    have hvi := run_valid (k := k) (R := R) (l := l.take i) hv fun o ho => hok o (List.mem_of_mem_take ho)
    have hP := mApply_yes k (runS k R (l.take i)).1 o hvi (hok o (List.mem_of_getElem? ho))
    have hsn := run_snoc k R (l.take i) o
    rw [← take_snoc ho] at hsn
    generalize runS k R (l.take i) = z at hP hsn hx
    obtain ⟨Ri, ys⟩ := z
    simp only at hP hsn hx
    generalize stepS k Ri o = z2 at hP hsn hx
    obtain ⟨R2, x⟩ := z2
    simp only at hP hsn hx
    have hX := sameRes_ok x x
    rw [decide_eq_true rfl] at hX
    repeat' first
      | refine g_go T hC true 400 rfl rfl ?_
      | (exfalso; simp at h; done)
      | refine g_cond rfl (fun h => ?_) (fun h => ?_)
      | refine g_end T hC (by kernel_rfl) ?_
      | refine g_splitD (fun h => ?_) (fun h => ?_)
      | refine g_splitG rfl rfl rfl (fun h => ?_) (fun h => ?_)
      | refine g_splitP rfl rfl (fun h => ?_) (fun h => ?_)
      | refine g_idx T hC (rows := l.map opR) rfl rfl rfl (Int.natCast_nonneg _) (map_at ho) rfl rfl ?_
      | refine g_call hC (hP) rfl rfl (LeSs.refl _) rfl rfl rfl ?_
      | refine g_idx T hC (rows := xs.map rsR) rfl rfl rfl (Int.natCast_nonneg _) (map_at hx) rfl rfl ?_
      | refine g_call hC (hX) rfl rfl (LeSs.refl _) rfl rfl rfl ?_
    all_goals rw [wrapS (by omega)]
    all_goals refine g_round (i + 1) (by omega) id (by omega) ?_
    all_goals simp only [hsn]
    all_goals exact ⟨rfl, ⟨rfl, rfl, rfl, rfl, rfl, rfl, trivial⟩, ⟨rfl, rfl, trivial⟩, rfl, fun _ _ => rfl⟩
  · have hge : i = l.length := by have := of_decide_eq_false h; omega
    subst hge
    rw [List.take_length, hRn]
    repeat' first
      | refine g_go T hC true 400 rfl rfl ?_
      | refine g_cond rfl (fun h => ?_) (fun h => ?_)
      | refine g_end T hC (by kernel_rfl) ?_
      | refine g_splitD (fun h => ?_) (fun h => ?_)
      | refine g_splitG rfl rfl rfl (fun h => ?_) (fun h => ?_)
      | refine g_splitP rfl rfl (fun h => ?_) (fun h => ?_)
      | refine g_outE ?_
      | refine g_call hC (hSm) rfl rfl (LeSs.refl _) rfl rfl rfl ?_
    all_goals exact g_fin ⟨.inl rfl, id, _, rfl, by first | exact .refl _ | exact LeS.qb rfl | exact LeS.qq rfl, trivial, rfl, rfl⟩
set_option maxHeartbeats 1000000 in
theorem runs_yes1t (k : Int) (R : Rws) (l : List OpT) (hk4 : (!decide (k = 4)) = true) (h1 : fewB R = true) (h3 : shortB l = true) (hv : validS k R = true) (hok : ∀ o ∈ l, okOp k o = true) : FnOK Tryz.prog 4 [aggS (stR k R), pS (opsP l), Bo true] [] (.bq true) [] := by
  have hL1 := few_ok k R
  have hL3 := short_ok l
  rw [h1] at hL1
  rw [h3] at hL3
  obtain ⟨f1, f2⟩ := few_len' h1
  obtain ⟨_, hk⟩ := valid_kind hv
  have hV := rValid_ok k R f2 f1
  rw [hv] at hV
  have hl40 : l.length ≤ 40 := by
    have := h3
    unfold shortB at this
    simp only [Bool.and_eq_true, decide_eq_true_eq] at this
    omega
  have hO := rValidAll_ok k l
  have hN := none_ok 0 []
  rw [show (decide ((0 : Int) = 0) && decide (([] : Rws) = [])) = true by simp] at hN
  have hW := rWords_ok (k := k) (by omega)
  have hnl : ((namesL k).map strR).length = (namesL k).length := List.length_map _
  obtain ⟨N, hNN⟩ : ∃ N, 2001 = N := ⟨_, rfl⟩
  have hRep := repeat_ok N hNN ⟨((namesL k).length : Int), []⟩
  have hOp := op_ok ((namesL k).length : Int) []
  have hF := mRun_full k R (List.replicate N ⟨((namesL k).length : Int), []⟩) hv (by
    rw [List.any_eq_false]
    intro o ho
    rw [List.eq_of_mem_replicate ho, last_ok (by omega)]; decide) (by rw [List.length_replicate]; omega)
  rw [List.all_eq_true.2 hok] at hO
  have hany : (l.any fun o => !okOp k o) = false := by
    rw [List.any_eq_false]
    intro o ho
    rw [hok o ho]; decide
  have hA := mRun_yes k R l hv hany (by omega)
  have hS := steps_ok k R l hv hok (by omega)
  have hSm := rSame_ok k k (runS k R l).1 (runS k R l).1
  rw [show (decide (k = k) && decide ((runS k R l).1 = (runS k R l).1)) = true by simp] at hSm
  have hQ := sameResults_ok (runS k R l).2 (runS k R l).2
  rw [decide_eq_true rfl] at hQ
  have hat := fun i o (h : l[i]? = some o) => run_at (k := k) (R := R) h
  have hlm : (l.map opR).length = l.length := List.length_map _
  obtain ⟨Rn, hRn⟩ : ∃ z, (runS k R l).1 = z := ⟨_, rfl⟩
  obtain ⟨xs, hxs⟩ : ∃ z, (runS k R l).2 = z := ⟨_, rfl⟩
  rw [hRn, hxs] at hA hS
  rw [hRn] at hSm
  rw [hxs] at hQ
  simp only [hxs] at hat
  refine fn_ok T Tryz.func4 (by kernel_rfl) rfl rfl rfl rfl fun C hC => ?_
  repeat' first
    | refine g_go T hC true 400 rfl rfl ?_
    | (exact Bool.noConfusion (h.symm.trans hk4))
    | (exfalso; simp at h; done)
    | refine g_cond rfl (fun h => ?_) (fun h => ?_)
    | refine g_end T hC (by kernel_rfl) ?_
    | refine g_splitD (fun h => ?_) (fun h => ?_)
    | refine g_splitG rfl rfl rfl (fun h => ?_) (fun h => ?_)
    | refine g_splitP rfl rfl (fun h => ?_) (fun h => ?_)
    | refine g_call hC (awake_ok) rfl rfl (LeSs.refl _) rfl rfl rfl ?_
    | refine g_call hC (hL1) rfl rfl (LeSs.refl _) rfl rfl rfl ?_
    | refine g_call hC (hL3) rfl rfl (LeSs.refl _) rfl rfl rfl ?_
    | refine g_call hC (hV) rfl rfl (LeSs.refl _) rfl rfl rfl ?_
    | refine g_call hC (hW) rfl rfl (LeSs.refl _) rfl rfl rfl ?_
    | (rw [hnl]; refine g_call hC hOp rfl rfl (LeSs.cons (.refl _) (LeSs.cons (LeS.one (.nil 1)) .nil)) rfl rfl rfl ?_)
    | refine g_lit T hC rfl rfl rfl rfl rfl rfl rfl rfl rfl ?_
    | refine g_call hC (hRep) rfl rfl (LeSs.refl _) rfl rfl rfl ?_
    | refine g_call hC (hF) rfl rfl (LeSs.refl _) rfl rfl rfl ?_
    | refine g_call hC (hN) rfl rfl (LeSs.refl _) rfl rfl rfl ?_
    | refine g_call hC (hA) rfl rfl (LeSs.refl _) rfl rfl rfl ?_
    | refine g_call hC (hO) rfl rfl (LeSs.refl _) rfl rfl rfl ?_
    | refine g_call hC (hS) rfl rfl (LeSs.refl _) rfl rfl rfl ?_
    | refine g_call hC (hSm) rfl rfl (LeSs.refl _) rfl rfl rfl ?_
    | refine g_call hC (hQ) rfl rfl (LeSs.refl _) rfl rfl rfl ?_
  rw [hlm]
  refine g_loop (fun i : Nat => i ≤ l.length) (fun i => ([(3, .one (.bx 1003 0)), (10, .one (.bx 1010 0)), (11, pS (rssP xs)), (116, pS (opsP l)), (117, I l.length), (118, I i)], [(1003, some (.box [.p (ki k), .p (rowsP (runS k R (l.take i)).1)])), (1010, some (.box [.p (ki k), .p (rowsP Rn)]))])) (fun i => l.length - i) hC
    0 (Nat.zero_le _) id ⟨rfl, ⟨rfl, rfl, rfl, rfl, rfl, rfl, trivial⟩, ⟨rfl, rfl, trivial⟩, rfl, fun _ _ => rfl⟩ ?_
  intro i hi
  refine g_run' T hC true 200 rfl ?_
  refine g_cond rfl (fun h => ?_) (fun h => ?_)
  · have hlt : i < l.length := by have := of_decide_eq_true h; omega
    clear h
    obtain ⟨o, ho⟩ := exists_at hlt
    have hx := hat i o ho
    have hvi := run_valid (k := k) (R := R) (l := l.take i) hv fun o ho => hok o (List.mem_of_mem_take ho)
    have hP := mApply_yes k (runS k R (l.take i)).1 o hvi (hok o (List.mem_of_getElem? ho))
    have hsn := run_snoc k R (l.take i) o
    rw [← take_snoc ho] at hsn
    generalize runS k R (l.take i) = z at hP hsn hx
    obtain ⟨Ri, ys⟩ := z
    simp only at hP hsn hx
    generalize stepS k Ri o = z2 at hP hsn hx
    obtain ⟨R2, x⟩ := z2
    simp only at hP hsn hx
    have hX := sameRes_ok x x
    rw [decide_eq_true rfl] at hX
    repeat' first
      | refine g_go T hC true 400 rfl rfl ?_
      | (exfalso; simp at h; done)
      | refine g_cond rfl (fun h => ?_) (fun h => ?_)
      | refine g_end T hC (by kernel_rfl) ?_
      | refine g_splitD (fun h => ?_) (fun h => ?_)
      | refine g_splitG rfl rfl rfl (fun h => ?_) (fun h => ?_)
      | refine g_splitP rfl rfl (fun h => ?_) (fun h => ?_)
      | refine g_idx T hC (rows := l.map opR) rfl rfl rfl (Int.natCast_nonneg _) (map_at ho) rfl rfl ?_
      | refine g_call hC (hP) rfl rfl (LeSs.refl _) rfl rfl rfl ?_
      | refine g_idx T hC (rows := xs.map rsR) rfl rfl rfl (Int.natCast_nonneg _) (map_at hx) rfl rfl ?_
      | refine g_call hC (hX) rfl rfl (LeSs.refl _) rfl rfl rfl ?_
    all_goals rw [wrapS (by omega)]
    all_goals refine g_round (i + 1) (by omega) id (by omega) ?_
    all_goals simp only [hsn]
    all_goals exact ⟨rfl, ⟨rfl, rfl, rfl, rfl, rfl, rfl, trivial⟩, ⟨rfl, rfl, trivial⟩, rfl, fun _ _ => rfl⟩
  · have hge : i = l.length := by have := of_decide_eq_false h; omega
    subst hge
    rw [List.take_length, hRn]
    repeat' first
      | refine g_go T hC true 400 rfl rfl ?_
      | refine g_cond rfl (fun h => ?_) (fun h => ?_)
      | refine g_end T hC (by kernel_rfl) ?_
      | refine g_splitD (fun h => ?_) (fun h => ?_)
      | refine g_splitG rfl rfl rfl (fun h => ?_) (fun h => ?_)
      | refine g_splitP rfl rfl (fun h => ?_) (fun h => ?_)
      | refine g_outE ?_
      | refine g_call hC (hSm) rfl rfl (LeSs.refl _) rfl rfl rfl ?_
    all_goals exact g_fin ⟨.inl rfl, id, _, rfl, by first | exact .refl _ | exact LeS.qb rfl | exact LeS.qq rfl, trivial, rfl, rfl⟩
set_option maxHeartbeats 1000000 in
theorem runs_yes1f (k : Int) (R : Rws) (l : List OpT) (hk4 : (!decide (k = 4)) = false) (h1 : fewB R = true) (h3 : shortB l = true) (hv : validS k R = true) (hok : ∀ o ∈ l, okOp k o = true) : FnOK Tryz.prog 4 [aggS (stR k R), pS (opsP l), Bo true] [] (.bq true) [] := by
  have hL1 := few_ok k R
  have hL3 := short_ok l
  rw [h1] at hL1
  rw [h3] at hL3
  obtain ⟨f1, f2⟩ := few_len' h1
  obtain ⟨_, hk⟩ := valid_kind hv
  have hV := rValid_ok k R f2 f1
  rw [hv] at hV
  have hl40 : l.length ≤ 40 := by
    have := h3
    unfold shortB at this
    simp only [Bool.and_eq_true, decide_eq_true_eq] at this
    omega
  have hO := rValidAll_ok k l
  have hN := none_ok 0 []
  rw [show (decide ((0 : Int) = 0) && decide (([] : Rws) = [])) = true by simp] at hN
  have hW := rWords_ok (k := k) (by omega)
  have hnl : ((namesL k).map strR).length = (namesL k).length := List.length_map _
  obtain ⟨N, hNN⟩ : ∃ N, 2001 = N := ⟨_, rfl⟩
  have hRep := repeat_ok N hNN ⟨((namesL k).length : Int), []⟩
  have hOp := op_ok ((namesL k).length : Int) []
  have hF := mRun_full k R (List.replicate N ⟨((namesL k).length : Int), []⟩) hv (by
    rw [List.any_eq_false]
    intro o ho
    rw [List.eq_of_mem_replicate ho, last_ok (by omega)]; decide) (by rw [List.length_replicate]; omega)
  rw [List.all_eq_true.2 hok] at hO
  have hany : (l.any fun o => !okOp k o) = false := by
    rw [List.any_eq_false]
    intro o ho
    rw [hok o ho]; decide
  have hA := mRun_yes k R l hv hany (by omega)
  have hS := steps_ok k R l hv hok (by omega)
  have hSm := rSame_ok k k (runS k R l).1 (runS k R l).1
  rw [show (decide (k = k) && decide ((runS k R l).1 = (runS k R l).1)) = true by simp] at hSm
  have hQ := sameResults_ok (runS k R l).2 (runS k R l).2
  rw [decide_eq_true rfl] at hQ
  have hat := fun i o (h : l[i]? = some o) => run_at (k := k) (R := R) h
  have hlm : (l.map opR).length = l.length := List.length_map _
  obtain ⟨Rn, hRn⟩ : ∃ z, (runS k R l).1 = z := ⟨_, rfl⟩
  obtain ⟨xs, hxs⟩ : ∃ z, (runS k R l).2 = z := ⟨_, rfl⟩
  rw [hRn, hxs] at hA hS
  rw [hRn] at hSm
  rw [hxs] at hQ
  simp only [hxs] at hat
  refine fn_ok T Tryz.func4 (by kernel_rfl) rfl rfl rfl rfl fun C hC => ?_
  repeat' first
    | refine g_go T hC true 400 rfl rfl ?_
    | (exact Bool.noConfusion (h.symm.trans hk4))
    | (exfalso; simp at h; done)
    | refine g_cond rfl (fun h => ?_) (fun h => ?_)
    | refine g_end T hC (by kernel_rfl) ?_
    | refine g_splitD (fun h => ?_) (fun h => ?_)
    | refine g_splitG rfl rfl rfl (fun h => ?_) (fun h => ?_)
    | refine g_splitP rfl rfl (fun h => ?_) (fun h => ?_)
    | refine g_call hC (awake_ok) rfl rfl (LeSs.refl _) rfl rfl rfl ?_
    | refine g_call hC (hL1) rfl rfl (LeSs.refl _) rfl rfl rfl ?_
    | refine g_call hC (hL3) rfl rfl (LeSs.refl _) rfl rfl rfl ?_
    | refine g_call hC (hV) rfl rfl (LeSs.refl _) rfl rfl rfl ?_
    | refine g_call hC (hW) rfl rfl (LeSs.refl _) rfl rfl rfl ?_
    | (rw [hnl]; refine g_call hC hOp rfl rfl (LeSs.cons (.refl _) (LeSs.cons (LeS.one (.nil 1)) .nil)) rfl rfl rfl ?_)
    | refine g_lit T hC rfl rfl rfl rfl rfl rfl rfl rfl rfl ?_
    | refine g_call hC (hRep) rfl rfl (LeSs.refl _) rfl rfl rfl ?_
    | refine g_call hC (hF) rfl rfl (LeSs.refl _) rfl rfl rfl ?_
    | refine g_call hC (hN) rfl rfl (LeSs.refl _) rfl rfl rfl ?_
    | refine g_call hC (hA) rfl rfl (LeSs.refl _) rfl rfl rfl ?_
    | refine g_call hC (hO) rfl rfl (LeSs.refl _) rfl rfl rfl ?_
    | refine g_call hC (hS) rfl rfl (LeSs.refl _) rfl rfl rfl ?_
    | refine g_call hC (hSm) rfl rfl (LeSs.refl _) rfl rfl rfl ?_
    | refine g_call hC (hQ) rfl rfl (LeSs.refl _) rfl rfl rfl ?_
  rw [hlm]
  refine g_loop (fun i : Nat => i ≤ l.length) (fun i => ([(3, .one (.bx 1003 0)), (10, .one (.bx 1010 0)), (11, pS (rssP xs)), (116, pS (opsP l)), (117, I l.length), (118, I i)], [(1003, some (.box [.p (ki k), .p (rowsP (runS k R (l.take i)).1)])), (1010, some (.box [.p (ki k), .p (rowsP Rn)]))])) (fun i => l.length - i) hC
    0 (Nat.zero_le _) id ⟨rfl, ⟨rfl, rfl, rfl, rfl, rfl, rfl, trivial⟩, ⟨rfl, rfl, trivial⟩, rfl, fun _ _ => rfl⟩ ?_
  intro i hi
  refine g_run' T hC true 200 rfl ?_
  refine g_cond rfl (fun h => ?_) (fun h => ?_)
  · have hlt : i < l.length := by have := of_decide_eq_true h; omega
    clear h
    obtain ⟨o, ho⟩ := exists_at hlt
    have hx := hat i o ho
    have hvi := run_valid (k := k) (R := R) (l := l.take i) hv fun o ho => hok o (List.mem_of_mem_take ho)
    have hP := mApply_yes k (runS k R (l.take i)).1 o hvi (hok o (List.mem_of_getElem? ho))
    have hsn := run_snoc k R (l.take i) o
    rw [← take_snoc ho] at hsn
    generalize runS k R (l.take i) = z at hP hsn hx
    obtain ⟨Ri, ys⟩ := z
    simp only at hP hsn hx
    generalize stepS k Ri o = z2 at hP hsn hx
    obtain ⟨R2, x⟩ := z2
    simp only at hP hsn hx
    have hX := sameRes_ok x x
    rw [decide_eq_true rfl] at hX
    repeat' first
      | refine g_go T hC true 400 rfl rfl ?_
      | (exfalso; simp at h; done)
      | refine g_cond rfl (fun h => ?_) (fun h => ?_)
      | refine g_end T hC (by kernel_rfl) ?_
      | refine g_splitD (fun h => ?_) (fun h => ?_)
      | refine g_splitG rfl rfl rfl (fun h => ?_) (fun h => ?_)
      | refine g_splitP rfl rfl (fun h => ?_) (fun h => ?_)
      | refine g_idx T hC (rows := l.map opR) rfl rfl rfl (Int.natCast_nonneg _) (map_at ho) rfl rfl ?_
      | refine g_call hC (hP) rfl rfl (LeSs.refl _) rfl rfl rfl ?_
      | refine g_idx T hC (rows := xs.map rsR) rfl rfl rfl (Int.natCast_nonneg _) (map_at hx) rfl rfl ?_
      | refine g_call hC (hX) rfl rfl (LeSs.refl _) rfl rfl rfl ?_
    all_goals rw [wrapS (by omega)]
    all_goals refine g_round (i + 1) (by omega) id (by omega) ?_
    all_goals simp only [hsn]
    all_goals exact ⟨rfl, ⟨rfl, rfl, rfl, rfl, rfl, rfl, trivial⟩, ⟨rfl, rfl, trivial⟩, rfl, fun _ _ => rfl⟩
  · have hge : i = l.length := by have := of_decide_eq_false h; omega
    subst hge
    rw [List.take_length, hRn]
    repeat' first
      | refine g_go T hC true 400 rfl rfl ?_
      | refine g_cond rfl (fun h => ?_) (fun h => ?_)
      | refine g_end T hC (by kernel_rfl) ?_
      | refine g_splitD (fun h => ?_) (fun h => ?_)
      | refine g_splitG rfl rfl rfl (fun h => ?_) (fun h => ?_)
      | refine g_splitP rfl rfl (fun h => ?_) (fun h => ?_)
      | refine g_outE ?_
      | refine g_call hC (hSm) rfl rfl (LeSs.refl _) rfl rfl rfl ?_
    all_goals exact g_fin ⟨.inl rfl, id, _, rfl, by first | exact .refl _ | exact LeS.qb rfl | exact LeS.qq rfl, trivial, rfl, rfl⟩
set_option maxHeartbeats 1000000 in
theorem runs_bad1t (k : Int) (R : Rws) (l : List OpT) (hk4 : (!decide (k = 4)) = true) (h1 : fewB R = true) (h3 : shortB l = true) (hv : validS k R = true) (hno : l.all (okOp k) = false) : FnOK Tryz.prog 4 [aggS (stR k R), pS (opsP l), Bo true] [] (.bq true) [] := by
  have hL1 := few_ok k R
  have hL3 := short_ok l
  rw [h1] at hL1
  rw [h3] at hL3
  obtain ⟨f1, f2⟩ := few_len' h1
  obtain ⟨_, hk⟩ := valid_kind hv
  have hV := rValid_ok k R f2 f1
  rw [hv] at hV
  have hl40 : l.length ≤ 40 := by
    have := h3
    unfold shortB at this
    simp only [Bool.and_eq_true, decide_eq_true_eq] at this
    omega
  have hO := rValidAll_ok k l
  have hN := none_ok 0 []
  rw [show (decide ((0 : Int) = 0) && decide (([] : Rws) = [])) = true by simp] at hN
  have hW := rWords_ok (k := k) (by omega)
  have hnl : ((namesL k).map strR).length = (namesL k).length := List.length_map _
  obtain ⟨N, hNN⟩ : ∃ N, 2001 = N := ⟨_, rfl⟩
  have hRep := repeat_ok N hNN ⟨((namesL k).length : Int), []⟩
  have hOp := op_ok ((namesL k).length : Int) []
  have hF := mRun_full k R (List.replicate N ⟨((namesL k).length : Int), []⟩) hv (by
    rw [List.any_eq_false]
    intro o ho
    rw [List.eq_of_mem_replicate ho, last_ok (by omega)]; decide) (by rw [List.length_replicate]; omega)
  rw [hno] at hO
  have hA := mRun_no k R l f2 f1 (.inr (by
    rw [List.any_eq_not_all_not]
    simpa using hno))
  refine fn_ok T Tryz.func4 (by kernel_rfl) rfl rfl rfl rfl fun C hC => ?_
  repeat' first
    | refine g_go T hC true 400 rfl rfl ?_
    | (exact Bool.noConfusion (h.symm.trans hk4))
    | (exfalso; simp at h; done)
    | refine g_cond rfl (fun h => ?_) (fun h => ?_)
    | refine g_end T hC (by kernel_rfl) ?_
    | refine g_splitD (fun h => ?_) (fun h => ?_)
    | refine g_splitG rfl rfl rfl (fun h => ?_) (fun h => ?_)
    | refine g_splitP rfl rfl (fun h => ?_) (fun h => ?_)
    | refine g_call hC (awake_ok) rfl rfl (LeSs.refl _) rfl rfl rfl ?_
    | refine g_call hC (hL1) rfl rfl (LeSs.refl _) rfl rfl rfl ?_
    | refine g_call hC (hL3) rfl rfl (LeSs.refl _) rfl rfl rfl ?_
    | refine g_call hC (hV) rfl rfl (LeSs.refl _) rfl rfl rfl ?_
    | refine g_call hC (hW) rfl rfl (LeSs.refl _) rfl rfl rfl ?_
    | (rw [hnl]; refine g_call hC hOp rfl rfl (LeSs.cons (.refl _) (LeSs.cons (LeS.one (.nil 1)) .nil)) rfl rfl rfl ?_)
    | refine g_lit T hC rfl rfl rfl rfl rfl rfl rfl rfl rfl ?_
    | refine g_call hC (hRep) rfl rfl (LeSs.refl _) rfl rfl rfl ?_
    | refine g_call hC (hF) rfl rfl (LeSs.refl _) rfl rfl rfl ?_
    | refine g_call hC (hA) rfl rfl (LeSs.refl _) rfl rfl rfl ?_
    | refine g_call hC (hO) rfl rfl (LeSs.refl _) rfl rfl rfl ?_
    | refine g_call hC (hN) rfl rfl (LeSs.refl _) rfl rfl rfl ?_
  all_goals exact g_fin ⟨.inl rfl, id, _, rfl, by first | exact .refl _ | exact LeS.qb rfl | exact LeS.qq rfl, trivial, rfl, rfl⟩
set_option maxHeartbeats 1000000 in
theorem runs_bad1f (k : Int) (R : Rws) (l : List OpT) (hk4 : (!decide (k = 4)) = false) (h1 : fewB R = true) (h3 : shortB l = true) (hv : validS k R = true) (hno : l.all (okOp k) = false) : FnOK Tryz.prog 4 [aggS (stR k R), pS (opsP l), Bo true] [] (.bq true) [] := by
  have hL1 := few_ok k R
  have hL3 := short_ok l
  rw [h1] at hL1
  rw [h3] at hL3
  obtain ⟨f1, f2⟩ := few_len' h1
  obtain ⟨_, hk⟩ := valid_kind hv
  have hV := rValid_ok k R f2 f1
  rw [hv] at hV
  have hl40 : l.length ≤ 40 := by
    have := h3
    unfold shortB at this
    simp only [Bool.and_eq_true, decide_eq_true_eq] at this
    omega
  have hO := rValidAll_ok k l
  have hN := none_ok 0 []
  rw [show (decide ((0 : Int) = 0) && decide (([] : Rws) = [])) = true by simp] at hN
  have hW := rWords_ok (k := k) (by omega)
  have hnl : ((namesL k).map strR).length = (namesL k).length := List.length_map _
  obtain ⟨N, hNN⟩ : ∃ N, 2001 = N := ⟨_, rfl⟩
  have hRep := repeat_ok N hNN ⟨((namesL k).length : Int), []⟩
  have hOp := op_ok ((namesL k).length : Int) []
  have hF := mRun_full k R (List.replicate N ⟨((namesL k).length : Int), []⟩) hv (by
    rw [List.any_eq_false]
    intro o ho
    rw [List.eq_of_mem_replicate ho, last_ok (by omega)]; decide) (by rw [List.length_replicate]; omega)
  rw [hno] at hO
  have hA := mRun_no k R l f2 f1 (.inr (by
    rw [List.any_eq_not_all_not]
    simpa using hno))
  refine fn_ok T Tryz.func4 (by kernel_rfl) rfl rfl rfl rfl fun C hC => ?_
  repeat' first
    | refine g_go T hC true 400 rfl rfl ?_
    | (exact Bool.noConfusion (h.symm.trans hk4))
    | (exfalso; simp at h; done)
    | refine g_cond rfl (fun h => ?_) (fun h => ?_)
    | refine g_end T hC (by kernel_rfl) ?_
    | refine g_splitD (fun h => ?_) (fun h => ?_)
    | refine g_splitG rfl rfl rfl (fun h => ?_) (fun h => ?_)
    | refine g_splitP rfl rfl (fun h => ?_) (fun h => ?_)
    | refine g_call hC (awake_ok) rfl rfl (LeSs.refl _) rfl rfl rfl ?_
    | refine g_call hC (hL1) rfl rfl (LeSs.refl _) rfl rfl rfl ?_
    | refine g_call hC (hL3) rfl rfl (LeSs.refl _) rfl rfl rfl ?_
    | refine g_call hC (hV) rfl rfl (LeSs.refl _) rfl rfl rfl ?_
    | refine g_call hC (hW) rfl rfl (LeSs.refl _) rfl rfl rfl ?_
    | (rw [hnl]; refine g_call hC hOp rfl rfl (LeSs.cons (.refl _) (LeSs.cons (LeS.one (.nil 1)) .nil)) rfl rfl rfl ?_)
    | refine g_lit T hC rfl rfl rfl rfl rfl rfl rfl rfl rfl ?_
    | refine g_call hC (hRep) rfl rfl (LeSs.refl _) rfl rfl rfl ?_
    | refine g_call hC (hF) rfl rfl (LeSs.refl _) rfl rfl rfl ?_
    | refine g_call hC (hA) rfl rfl (LeSs.refl _) rfl rfl rfl ?_
    | refine g_call hC (hO) rfl rfl (LeSs.refl _) rfl rfl rfl ?_
    | refine g_call hC (hN) rfl rfl (LeSs.refl _) rfl rfl rfl ?_
  all_goals exact g_fin ⟨.inl rfl, id, _, rfl, by first | exact .refl _ | exact LeS.qb rfl | exact LeS.qq rfl, trivial, rfl, rfl⟩
theorem modelRuns_ok (a : Int × Rws) (l : List OpT) (m : Bool) : FnOK Tryz.prog 4 [aggS (stR a.1 a.2), pS (opsP l), Bo m] [] (.bq true) [] := by
  obtain ⟨k, R⟩ := a
  simp only
  by_cases h0 : fewB R = false ∨ shortB l = false
  · exact runs_out k R l m h0
  have h1 : fewB R = true := by
    cases h : fewB R with
    | true => rfl
    | false => exact absurd (.inl h) h0
  have h3 : shortB l = true := by
    cases h : shortB l with
    | true => rfl
    | false => exact absurd (.inr h) h0
  cases hv : validS k R with
  | false => exact runs_no k R l m h1 h3 (.inr hv) (.inl hv)
  | true =>
    cases ho : l.all (okOp k) with
    | false =>
      cases m with
      | false => exact runs_no k R l false h1 h3 (.inl rfl) (.inr ho)
      | true =>
        cases hk4 : (!decide (k = 4)) with
        | true => exact runs_bad1t k R l hk4 h1 h3 hv ho
        | false => exact runs_bad1f k R l hk4 h1 h3 hv ho
    | true =>
      cases m with
      | false => exact runs_yes0 k R l h1 h3 hv (List.all_eq_true.1 ho)
      | true =>
        cases hk4 : (!decide (k = 4)) with
        | true => exact runs_yes1t k R l hk4 h1 h3 hv (List.all_eq_true.1 ho)
        | false => exact runs_yes1f k R l hk4 h1 h3 hv (List.all_eq_true.1 ho)
end Hw.Mz
