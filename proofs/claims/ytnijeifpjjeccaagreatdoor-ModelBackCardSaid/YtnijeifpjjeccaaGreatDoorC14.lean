/- The engine and the contracts. -/
import Derived.Test.YtnijeifpjjeccaaGreatDoorC13
set_option linter.unusedVariables false
set_option linter.unusedSimpArgs false
namespace Hw.Mq
open Go Go.Proofs Go.Shelf Hw.M

/-! models: the chapter's example; queries -/
def awkL : List OpT := [⟨1, [3, 10]⟩, ⟨1, [1, 7]⟩, ⟨1, [3, 11]⟩, ⟨7, [1]⟩, ⟨6, [3]⟩, ⟨4, [2]⟩, ⟨4, [0]⟩]
def awkR : List RsT := [⟨0, 0⟩, ⟨0, 0⟩, ⟨0, 1⟩, ⟨0, 3⟩, ⟨0, 1⟩, ⟨0, 1⟩, ⟨12, 0⟩]
theorem awake_ok : FnOK Tryz.prog 5 [] [] (.bq true) [] := by
  have hN := new_ok (k := 1) (by decide)
  have hRun := mRun_yes 1 [] awkL (by decide) (by decide) (by decide)
  have e : runS 1 [] awkL = ([[1, 7], [3, 11]], awkR) := by decide
  rw [e] at hRun
  have hS := rSame_ok 1 1 [[1, 7], [3, 11]] [[1, 7], [3, 11]]
  have e2 : (decide ((1 : Int) = 1) && decide (([[1, 7], [3, 11]] : Rws) = [[1, 7], [3, 11]])) = true := by decide
  rw [e2] at hS
  have hQ := sameResults_ok awkR awkR
  rw [decide_eq_true (rfl : awkR = awkR)] at hQ
  refine fn_ok T Tryz.func5 (by kernel_rfl) rfl rfl rfl rfl fun C hC => ?_
  repeat' first
    | refine g_go T hC true 400 rfl rfl ?_
    | (exfalso; simp at h; done)
    | refine g_cond rfl (fun h => ?_) (fun h => ?_)
    | refine g_end T hC (by kernel_rfl) ?_
    | refine g_splitD (fun h => ?_) (fun h => ?_)
    | refine g_splitG rfl rfl rfl (fun h => ?_) (fun h => ?_)
    | refine g_splitP rfl rfl (fun h => ?_) (fun h => ?_)
    | refine g_call hC (hN) rfl rfl (LeSs.refl _) rfl rfl rfl ?_
    | refine g_lit T hC rfl rfl rfl rfl rfl rfl rfl rfl rfl ?_
    | refine g_call hC (op_ok 1 [3, 10]) rfl rfl (LeSs.refl _) rfl rfl rfl ?_
    | refine g_call hC (op_ok 1 [1, 7]) rfl rfl (LeSs.refl _) rfl rfl rfl ?_
    | refine g_call hC (op_ok 1 [3, 11]) rfl rfl (LeSs.refl _) rfl rfl rfl ?_
    | refine g_call hC (op_ok 7 [1]) rfl rfl (LeSs.refl _) rfl rfl rfl ?_
    | refine g_call hC (op_ok 6 [3]) rfl rfl (LeSs.refl _) rfl rfl rfl ?_
    | refine g_call hC (op_ok 4 [2]) rfl rfl (LeSs.refl _) rfl rfl rfl ?_
    | refine g_call hC (op_ok 4 [0]) rfl rfl (LeSs.refl _) rfl rfl rfl ?_
    | refine g_call hC (hRun) rfl rfl (LeSs.refl _) rfl rfl rfl ?_
    | refine g_call hC (hS) rfl rfl (LeSs.refl _) rfl rfl rfl ?_
    | refine g_call hC (hQ) rfl rfl (LeSs.refl _) rfl rfl rfl ?_
  all_goals exact g_fin ⟨.inl rfl, id, _, rfl, by first | exact .refl _ | exact LeS.qb rfl, trivial, rfl, rfl⟩
end Hw.Mq
