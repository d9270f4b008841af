/- The engine and the contracts. -/
import Derived.Test.YtnijeifpjjeccaaC13
set_option linter.unusedVariables false
set_option linter.unusedSimpArgs false
namespace Hw.Mo
open Go Go.Proofs Go.Shelf Hw.M

/-! models: the chapter's example; queries -/
def awkL : List OpT := [⟨1, [3, 10]⟩, ⟨1, [1, 7]⟩, ⟨1, [3, 11]⟩, ⟨7, [1]⟩, ⟨6, [3]⟩, ⟨4, [2]⟩, ⟨4, [0]⟩]
def awkR : List RsT := [⟨0, 0⟩, ⟨0, 0⟩, ⟨0, 1⟩, ⟨0, 3⟩, ⟨0, 1⟩, ⟨0, 1⟩, ⟨12, 0⟩]
theorem awake_ok : FnOK Try.prog 11 [] [] (.bq true) [] := by
  have hN := new_ok (k := 1) (by decide)
  have hRun := mRun_yes 1 [] awkL (by decide) (by decide) (by decide)
  have e : runS 1 [] awkL = ([[1, 7], [3, 11]], awkR) := by decide
  rw [e] at hRun
  have hS := rSame_ok 1 1 [[1, 7], [3, 11]] [[1, 7], [3, 11]]
  have e2 : (decide ((1 : Int) = 1) && decide (([[1, 7], [3, 11]] : Rws) = [[1, 7], [3, 11]])) = true := by decide
  rw [e2] at hS
  have hQ := sameResults_ok awkR awkR
  rw [decide_eq_true (rfl : awkR = awkR)] at hQ
  refine fn_ok T Try.func11 (by kernel_rfl) rfl rfl rfl rfl fun C hC => ?_
  repeat' first
    | refine g_go T hC true 400 rfl rfl ?_
    | (exfalso; simp at h; done)
    | refine g_cond rfl (fun h => ?_) (fun h => ?_)
    | refine g_end T hC (by kernel_rfl) ?_
    | refine g_splitD (fun h => ?_) (fun h => ?_)
    | refine g_splitG rfl rfl rfl (fun h => ?_) (fun h => ?_)
    | refine g_splitP rfl rfl (fun h => ?_) (fun h => ?_)
    | refine g_call hC (hN) rfl rfl (LeSs.refl _) rfl rfl rfl ?_
    | refine g_lit T hC rfl rfl rfl rfl rfl rfl rfl rfl rfl ?_
    | refine g_call hC (op_ok 1 [3, 10]) rfl rfl (LeSs.refl _) rfl rfl rfl ?_
    | refine g_call hC (op_ok 1 [1, 7]) rfl rfl (LeSs.refl _) rfl rfl rfl ?_
    | refine g_call hC (op_ok 1 [3, 11]) rfl rfl (LeSs.refl _) rfl rfl rfl ?_
    | refine g_call hC (op_ok 7 [1]) rfl rfl (LeSs.refl _) rfl rfl rfl ?_
    | refine g_call hC (op_ok 6 [3]) rfl rfl (LeSs.refl _) rfl rfl rfl ?_
    | refine g_call hC (op_ok 4 [2]) rfl rfl (LeSs.refl _) rfl rfl rfl ?_
    | refine g_call hC (op_ok 4 [0]) rfl rfl (LeSs.refl _) rfl rfl rfl ?_
    | refine g_call hC (hRun) rfl rfl (LeSs.refl _) rfl rfl rfl ?_
    | refine g_call hC (hS) rfl rfl (LeSs.refl _) rfl rfl rfl ?_
    | refine g_call hC (hQ) rfl rfl (LeSs.refl _) rfl rfl rfl ?_
  all_goals exact g_fin ⟨.inl rfl, id, _, rfl, by first | exact .refl _ | exact LeS.qb rfl, trivial, rfl, rfl⟩
theorem ask_ok (k : Int) (R : Rws) (c : Int) (l : List Int) (x : RsT) (hv : validS k R = true) (ho : okOp k ⟨c, l⟩ = true) (he : stepS k R ⟨c, l⟩ = (R, x)) :
    FnOK Try.prog 16 [aggS (stR k R), I c, pS (intsP l)] [] (.tup [aggS (rsR x), .bq true]) [] := by
  have hA := mApply_yes k R ⟨c, l⟩ hv ho
  rw [he] at hA
  have hS := mSame_ok k k R R
  rw [show (decide (k = k) && decide (R = R)) = true by simp] at hS
  have hO := op_ok c l
  refine fn_ok T Try.func16 (by kernel_rfl) rfl rfl rfl rfl fun C hC => ?_
  repeat' first
    | refine g_go T hC true 400 rfl rfl ?_
    | (exfalso; simp at h; done)
    | refine g_cond rfl (fun h => ?_) (fun h => ?_)
    | refine g_end T hC (by kernel_rfl) ?_
    | refine g_splitD (fun h => ?_) (fun h => ?_)
    | refine g_splitG rfl rfl rfl (fun h => ?_) (fun h => ?_)
    | refine g_splitP rfl rfl (fun h => ?_) (fun h => ?_)
    | refine g_call hC (hO) rfl rfl (LeSs.refl _) rfl rfl rfl ?_
    | refine g_call hC (hA) rfl rfl (LeSs.refl _) rfl rfl rfl ?_
    | refine g_call hC (hS) rfl rfl (LeSs.refl _) rfl rfl rfl ?_
  all_goals exact g_fin ⟨.inl rfl, id, _, rfl, by first | exact .refl _ | exact LeS.tup (.cons (.refl _) (.cons (LeS.qb rfl) .nil)), trivial, rfl, rfl⟩
end Hw.Mo
namespace Hw.Mo
open Go Go.Proofs Go.Shelf Hw.M

/-! models: the law of the forms -/
theorem few_len {R : Rws} (h : fewB R = true) : R.length ≤ 1000000 ∧ ∀ r ∈ R, r.length ≤ 1000000 := by
  unfold fewB at h
  simp only [Bool.and_eq_true, Bool.or_eq_true, decide_eq_true_eq, Bool.not_eq_true', List.any_eq_false] at h
  refine ⟨by omega, fun r hr => ?_⟩
  have := h.2 r hr
  simp only [longR, Bool.or_eq_true, Bool.and_eq_true, decide_eq_true_eq] at this
  omega
theorem forms_out (ka kb : Int) (Ra Rb : Rws) (o : OpT) (kind code : Int) (h0 : (fewB Ra && fewB Rb && shortB [o]) = false) :
    FnOK Try.prog 9 [aggS (stR ka Ra), aggS (stR kb Rb), aggS (opR o), I kind, I code] [] (.bq true) [] := by
  have hL1 := few_ok ka Ra
  have hL2 := few_ok kb Rb
  have hL3 := short_ok [o]
  generalize fewB Ra = q1 at *
  generalize fewB Rb = q2 at *
  generalize shortB [o] = q3 at *
  cases q1 with
  | false =>
    refine fn_ok T Try.func9 (by kernel_rfl) rfl rfl rfl rfl fun C hC => ?_
    repeat' first
      | refine g_go T hC true 400 rfl rfl ?_
      | (exfalso; simp at h; done)
      | refine g_cond rfl (fun h => ?_) (fun h => ?_)
      | refine g_end T hC (by kernel_rfl) ?_
      | refine g_splitD (fun h => ?_) (fun h => ?_)
      | refine g_splitG rfl rfl rfl (fun h => ?_) (fun h => ?_)
      | refine g_splitP rfl rfl (fun h => ?_) (fun h => ?_)
      | refine g_call hC (awake_ok) rfl rfl (LeSs.refl _) rfl rfl rfl ?_
      | refine g_call hC (hL1) rfl rfl (LeSs.refl _) rfl rfl rfl ?_
      | refine g_call hC (hL2) rfl rfl (LeSs.refl _) rfl rfl rfl ?_
      | refine g_lit T hC rfl rfl rfl rfl rfl rfl rfl rfl rfl ?_
      | refine g_call hC (hL3) rfl rfl (LeSs.refl _) rfl rfl rfl ?_
    all_goals exact g_fin ⟨.inl rfl, id, _, rfl, .refl _, trivial, rfl, rfl⟩
  | true =>
    cases q2 with
    | false =>
      refine fn_ok T Try.func9 (by kernel_rfl) rfl rfl rfl rfl fun C hC => ?_
      repeat' first
        | refine g_go T hC true 400 rfl rfl ?_
        | (exfalso; simp at h; done)
        | refine g_cond rfl (fun h => ?_) (fun h => ?_)
        | refine g_end T hC (by kernel_rfl) ?_
        | refine g_splitD (fun h => ?_) (fun h => ?_)
        | refine g_splitG rfl rfl rfl (fun h => ?_) (fun h => ?_)
        | refine g_splitP rfl rfl (fun h => ?_) (fun h => ?_)
        | refine g_call hC (awake_ok) rfl rfl (LeSs.refl _) rfl rfl rfl ?_
        | refine g_call hC (hL1) rfl rfl (LeSs.refl _) rfl rfl rfl ?_
        | refine g_call hC (hL2) rfl rfl (LeSs.refl _) rfl rfl rfl ?_
        | refine g_lit T hC rfl rfl rfl rfl rfl rfl rfl rfl rfl ?_
        | refine g_call hC (hL3) rfl rfl (LeSs.refl _) rfl rfl rfl ?_
      all_goals exact g_fin ⟨.inl rfl, id, _, rfl, .refl _, trivial, rfl, rfl⟩
    | true =>
      cases q3 with
      | false =>
        refine fn_ok T Try.func9 (by kernel_rfl) rfl rfl rfl rfl fun C hC => ?_
        repeat' first
          | refine g_go T hC true 400 rfl rfl ?_
          | (exfalso; simp at h; done)
          | refine g_cond rfl (fun h => ?_) (fun h => ?_)
          | refine g_end T hC (by kernel_rfl) ?_
          | refine g_splitD (fun h => ?_) (fun h => ?_)
          | refine g_splitG rfl rfl rfl (fun h => ?_) (fun h => ?_)
          | refine g_splitP rfl rfl (fun h => ?_) (fun h => ?_)
          | refine g_call hC (awake_ok) rfl rfl (LeSs.refl _) rfl rfl rfl ?_
          | refine g_call hC (hL1) rfl rfl (LeSs.refl _) rfl rfl rfl ?_
          | refine g_call hC (hL2) rfl rfl (LeSs.refl _) rfl rfl rfl ?_
          | refine g_lit T hC rfl rfl rfl rfl rfl rfl rfl rfl rfl ?_
          | refine g_call hC (hL3) rfl rfl (LeSs.refl _) rfl rfl rfl ?_
        all_goals exact g_fin ⟨.inl rfl, id, _, rfl, .refl _, trivial, rfl, rfl⟩
      | true => cases h0
theorem bne_self (q : Bool) : (!decide (q = q)) = false := by simp
theorem forms_known (ka kb : Int) (Ra Rb : Rws) (o : OpT) (kind code : Int) (h1 : fewB Ra = true) (h2 : fewB Rb = true) (h3 : shortB [o] = true) (hk : 1 ≤ kind ∧ kind ≤ 6) (u : Bool) (e : Int) (hU : FnOK Try.prog 26 [I kind, I code] [] (.tup [.bq u, I e]) [])
    (hc : (code < 1 ∨ ((wordsL kind).length : Int) < code) ∧ u = false ∧ e = 2 ∨ ¬ (code < 1 ∨ ((wordsL kind).length : Int) < code) ∧ e = 0 ∧ FnOK Try.prog 34 [I kind, I code] [] (.bq u) []) :
    FnOK Try.prog 9 [aggS (stR ka Ra), aggS (stR kb Rb), aggS (opR o), I kind, I code] [] (.bq true) [] := by
  have hL1 := few_ok ka Ra
  have hL2 := few_ok kb Rb
  have hL3 := short_ok [o]
  rw [h1] at hL1
  rw [h2] at hL2
  rw [h3] at hL3
  have hV1 := mValid_ok ka Ra (few_len h1).2 (few_len h1).1
  have hV2 := rValid_ok ka Ra (few_len h1).2 (few_len h1).1
  have hO1 := validOp_ok kind o
  have hO2 := rValidOp_ok kind o
  have hS1 := mSame_ok ka kb Ra Rb
  have hS2 := rSame_ok ka kb Ra Rb
  have hN := new_ok hk
  have hS3 := rSame_ok kind kind [] []
  rw [show (decide (kind = kind) && decide (([] : Rws) = [])) = true by simp] at hS3
  have hW := rWords_ok hk
  have hnl : ((namesL kind).map strR).length = (wordsL kind).length := by simp [namesL]
  generalize validS ka Ra = q1 at *
  generalize okOp kind o = q2 at *
  generalize (decide (ka = kb) && decide (Ra = Rb)) = q3 at *
  rcases hc with ⟨hc, rfl, rfl⟩ | ⟨hc, rfl, hR⟩
  · refine fn_ok T Try.func9 (by kernel_rfl) rfl rfl rfl rfl fun C hC => ?_
    repeat' first
      | refine g_go T hC true 400 rfl rfl ?_
      | refine g_bools hC rfl rfl (by kernel_rfl) rfl rfl ?_
      | (exfalso; first | (simp only [decide_eq_true_eq, decide_eq_false_iff_not, List.length_map, Bool.not_eq_true', Bool.not_eq_false'] at *; omega) | (simp at h; done))
      | refine g_cond rfl (fun h => ?_) (fun h => ?_)
      | refine g_end T hC (by kernel_rfl) ?_
      | refine g_splitD (fun h => ?_) (fun h => ?_)
      | refine g_splitG rfl rfl rfl (fun h => ?_) (fun h => ?_)
      | refine g_splitP rfl rfl (fun h => ?_) (fun h => ?_)
      | refine g_call hC (awake_ok) rfl rfl (LeSs.refl _) rfl rfl rfl ?_
      | refine g_call hC (hL1) rfl rfl (LeSs.refl _) rfl rfl rfl ?_
      | refine g_call hC (hL2) rfl rfl (LeSs.refl _) rfl rfl rfl ?_
      | refine g_lit T hC rfl rfl rfl rfl rfl rfl rfl rfl rfl ?_
      | refine g_call hC (hL3) rfl rfl (LeSs.refl _) rfl rfl rfl ?_
      | refine g_call hC (hN) rfl rfl (LeSs.refl _) rfl rfl rfl ?_
      | refine g_call hC (hU) rfl rfl (LeSs.refl _) rfl rfl rfl ?_
      | refine g_call hC (hV1) rfl rfl (LeSs.refl _) rfl rfl rfl ?_
      | refine g_call hC (hV2) rfl rfl (LeSs.refl _) rfl rfl rfl ?_
      | refine g_call hC (hO1) rfl rfl (LeSs.refl _) rfl rfl rfl ?_
      | refine g_call hC (hO2) rfl rfl (LeSs.refl _) rfl rfl rfl ?_
      | refine g_call hC (hS1) rfl rfl (LeSs.refl _) rfl rfl rfl ?_
      | refine g_call hC (hS2) rfl rfl (LeSs.refl _) rfl rfl rfl ?_
      | (refine g_call hC hS3 rfl rfl (LeSs.cons (.refl _) (LeSs.cons (LeS.emp kind) .nil)) rfl rfl rfl ?_)
      | refine g_call hC (hW) rfl rfl (LeSs.refl _) rfl rfl rfl ?_
      | refine g_retq T (.inl rfl) rfl ?_
      | refine g_retl T (.inl rfl) rfl ?_
    all_goals (clear hL1 hL2 hL3 hN hS3 hW hV1 hV2 hO1 hO2 hS1 hS2 hU; try simp only [List.length_map] at *)
    all_goals first
      | rfl
      | (simp; done)
      | (simp_all; done)
      | (simp_all; omega)
      | (intros; simp_all <;> omega)
  · refine fn_ok T Try.func9 (by kernel_rfl) rfl rfl rfl rfl fun C hC => ?_
    repeat' first
      | refine g_go T hC true 400 rfl rfl ?_
      | refine g_boolsE hC rfl rfl (by kernel_rfl) rfl rfl ?_
      | refine g_bools hC rfl rfl (by kernel_rfl) rfl rfl ?_
      | (exfalso; first | (simp only [decide_eq_true_eq, decide_eq_false_iff_not, List.length_map, Bool.not_eq_true', Bool.not_eq_false'] at *; omega) | (simp at h; done))
      | refine g_cond rfl (fun h => ?_) (fun h => ?_)
      | refine g_end T hC (by kernel_rfl) ?_
      | refine g_splitD (fun h => ?_) (fun h => ?_)
      | refine g_splitG rfl rfl rfl (fun h => ?_) (fun h => ?_)
      | refine g_splitP rfl rfl (fun h => ?_) (fun h => ?_)
      | refine g_call hC (awake_ok) rfl rfl (LeSs.refl _) rfl rfl rfl ?_
      | refine g_call hC (hL1) rfl rfl (LeSs.refl _) rfl rfl rfl ?_
      | refine g_call hC (hL2) rfl rfl (LeSs.refl _) rfl rfl rfl ?_
      | refine g_lit T hC rfl rfl rfl rfl rfl rfl rfl rfl rfl ?_
      | refine g_call hC (hL3) rfl rfl (LeSs.refl _) rfl rfl rfl ?_
      | refine g_call hC (hN) rfl rfl (LeSs.refl _) rfl rfl rfl ?_
      | refine g_call hC (hU) rfl rfl (LeSs.refl _) rfl rfl rfl ?_
      | refine g_call hC (hV1) rfl rfl (LeSs.refl _) rfl rfl rfl ?_
      | refine g_call hC (hV2) rfl rfl (LeSs.refl _) rfl rfl rfl ?_
      | refine g_call hC (hO1) rfl rfl (LeSs.refl _) rfl rfl rfl ?_
      | refine g_call hC (hO2) rfl rfl (LeSs.refl _) rfl rfl rfl ?_
      | refine g_call hC (hS1) rfl rfl (LeSs.refl _) rfl rfl rfl ?_
      | refine g_call hC (hS2) rfl rfl (LeSs.refl _) rfl rfl rfl ?_
      | (refine g_call hC hS3 rfl rfl (LeSs.cons (.refl _) (LeSs.cons (LeS.emp kind) .nil)) rfl rfl rfl ?_)
      | refine g_call hC (hW) rfl rfl (LeSs.refl _) rfl rfl rfl ?_
      | refine g_call hC (hR) rfl rfl (LeSs.refl _) rfl rfl rfl ?_
      | refine g_retq T (.inl rfl) rfl ?_
      | refine g_retl T (.inl rfl) rfl ?_
    all_goals (clear hL1 hL2 hL3 hN hS3 hW hV1 hV2 hO1 hO2 hS1 hS2 hU hR; try simp only [List.length_map] at *)
    all_goals first
      | rfl
      | (simp; done)
      | (simp_all; done)
      | (simp_all; omega)
      | (intros; simp_all <;> omega)
theorem forms_none (ka kb : Int) (Ra Rb : Rws) (o : OpT) (kind code : Int) (h1 : fewB Ra = true) (h2 : fewB Rb = true) (h3 : shortB [o] = true) (hk : ¬ (1 ≤ kind ∧ kind ≤ 6)) :
    FnOK Try.prog 9 [aggS (stR ka Ra), aggS (stR kb Rb), aggS (opR o), I kind, I code] [] (.bq true) [] := by
  have hL1 := few_ok ka Ra
  have hL2 := few_ok kb Rb
  have hL3 := short_ok [o]
  rw [h1] at hL1
  rw [h2] at hL2
  rw [h3] at hL3
  have hV1 := mValid_ok ka Ra (few_len h1).2 (few_len h1).1
  have hV2 := rValid_ok ka Ra (few_len h1).2 (few_len h1).1
  have hO1 := validOp_ok kind o
  have hO2 := rValidOp_ok kind o
  have hS1 := mSame_ok ka kb Ra Rb
  have hS2 := rSame_ok ka kb Ra Rb
  have hN := new_no hk
  have hU := isUpdate_no (c := code) hk
  have hS3 := none_ok 0 []
  rw [show (decide ((0 : Int) = 0) && decide (([] : Rws) = [])) = true by simp] at hS3
  generalize validS ka Ra = q1 at *
  generalize okOp kind o = q2 at *
  generalize (decide (ka = kb) && decide (Ra = Rb)) = q3 at *
  refine fn_ok T Try.func9 (by kernel_rfl) rfl rfl rfl rfl fun C hC => ?_
  repeat' first
    | refine g_go T hC true 400 rfl rfl ?_
    | refine g_bools hC rfl rfl (by kernel_rfl) rfl rfl ?_
    | (exfalso; first | (simp only [decide_eq_true_eq, decide_eq_false_iff_not, List.length_map, Bool.not_eq_true', Bool.not_eq_false'] at *; omega) | (simp at h; done))
    | refine g_cond rfl (fun h => ?_) (fun h => ?_)
    | refine g_end T hC (by kernel_rfl) ?_
    | refine g_splitD (fun h => ?_) (fun h => ?_)
    | refine g_splitG rfl rfl rfl (fun h => ?_) (fun h => ?_)
    | refine g_splitP rfl rfl (fun h => ?_) (fun h => ?_)
    | refine g_call hC (awake_ok) rfl rfl (LeSs.refl _) rfl rfl rfl ?_
    | refine g_call hC (hL1) rfl rfl (LeSs.refl _) rfl rfl rfl ?_
    | refine g_call hC (hL2) rfl rfl (LeSs.refl _) rfl rfl rfl ?_
    | refine g_lit T hC rfl rfl rfl rfl rfl rfl rfl rfl rfl ?_
    | refine g_call hC (hL3) rfl rfl (LeSs.refl _) rfl rfl rfl ?_
    | refine g_call hC (hN) rfl rfl (LeSs.refl _) rfl rfl rfl ?_
    | refine g_call hC (hU) rfl rfl (LeSs.refl _) rfl rfl rfl ?_
    | refine g_call hC (hV1) rfl rfl (LeSs.refl _) rfl rfl rfl ?_
    | refine g_call hC (hV2) rfl rfl (LeSs.refl _) rfl rfl rfl ?_
    | refine g_call hC (hO1) rfl rfl (LeSs.refl _) rfl rfl rfl ?_
    | refine g_call hC (hO2) rfl rfl (LeSs.refl _) rfl rfl rfl ?_
    | refine g_call hC (hS1) rfl rfl (LeSs.refl _) rfl rfl rfl ?_
    | refine g_call hC (hS2) rfl rfl (LeSs.refl _) rfl rfl rfl ?_
    | refine g_call hC (hS3) rfl rfl (LeSs.refl _) rfl rfl rfl ?_
    | refine g_retq T (.inl rfl) rfl ?_
    | refine g_retl T (.inl rfl) rfl ?_
  all_goals (clear hL1 hL2 hL3 hN hS3 hV1 hV2 hO1 hO2 hS1 hS2 hU; try simp only [List.length_map] at *)
  all_goals first
    | rfl
    | (simp; done)
    | (simp_all; done)
    | (simp_all; omega)
    | (intros; simp_all <;> omega)
theorem modelForms_ok (a b : Int × Rws) (o : OpT) (kind code : Int) : FnOK Try.prog 9 [aggS (stR a.1 a.2), aggS (stR b.1 b.2), aggS (opR o), I kind, I code] [] (.bq true) [] := by
  cases h0 : (fewB a.2 && fewB b.2 && shortB [o]) with
  | false => exact forms_out _ _ _ _ o kind code h0
  | true =>
    simp only [Bool.and_eq_true] at h0
    obtain ⟨⟨h1, h2⟩, h3⟩ := h0
    by_cases hk : 1 ≤ kind ∧ kind ≤ 6
    · by_cases hc : code < 1 ∨ ((wordsL kind).length : Int) < code
      · exact forms_known _ _ _ _ o kind code h1 h2 h3 hk false 2 (isUpdate_out hk hc) (.inl ⟨hc, rfl, rfl⟩)
      · have hw : (wordsL kind)[(code - 1).toNat]? = some ((wordsL kind)[(code - 1).toNat]'(by omega)) := List.getElem?_eq_getElem _
        exact forms_known _ _ _ _ o kind code h1 h2 h3 hk _ 0 (isUpdate_ok hk (by omega) hw) (.inr ⟨hc, rfl, rIsUpdate_ok hk (by omega) hw⟩)
    · exact forms_none _ _ _ _ o kind code h1 h2 h3 hk
end Hw.Mo
