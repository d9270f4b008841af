/- The engine and the contracts. -/
import Derived.Test.YtkamoncpfogmaaaGreatDoorC5
set_option linter.unusedVariables false
set_option linter.unusedSimpArgs false
namespace Hw.Pa
open Go Go.Proofs Hw.M

def ax1 : Str := (⟨#[97, 32, 45, 32, 98, 32, 45, 32, 99]⟩ : ByteArray)
def ax2 : Str := (⟨#[110, 111, 116, 32, 97, 32, 61, 61, 32, 98]⟩ : ByteArray)
def ax3 : Str := (⟨#[97, 32, 60, 32, 98, 32, 60, 32, 99]⟩ : ByteArray)
def nmE (s : Str) : Ex := .mk 4 0 s []
def twE (op : Int) (a b : Ex) : Ex := .mk op 0 (⟨#[]⟩ : ByteArray) [a, b]
def awX : Ex := twE 10 (twE 10 (nmE (⟨#[97]⟩ : ByteArray)) (nmE (⟨#[98]⟩ : ByteArray))) (nmE (⟨#[99]⟩ : ByteArray))
def awY : Ex := .mk 18 0 (⟨#[]⟩ : ByteArray) [twE 14 (nmE (⟨#[97]⟩ : ByteArray)) (nmE (⟨#[98]⟩ : ByteArray))]
theorem ax1_eq : exprTop ax1 = (awX, (0, 0), 0) := by kernel_rfl
theorem ax2_eq : exprTop ax2 = (awY, (0, 0), 0) := by kernel_rfl
theorem ax3_eq : exprTop ax3 = (E0, (1, 7), 7) := by kernel_rfl
def ax4 : Str := ⟨#[100, 101, 115, 99, 32, 100, 32, 123, 32, 116, 121, 112, 101, 32, 84, 32, 123, 32, 102, 32, 105, 110, 116, 32, 125, 32, 112, 114, 111, 99, 32, 112, 40, 120, 32, 84, 41, 32, 123, 32, 120, 46, 102, 32, 61, 32, 49, 59, 32, 125, 32, 125]⟩
def ax5 : Str := ⟨#[100, 101, 115, 99, 32, 100, 32, 123, 32, 112, 114, 111, 99, 32, 112, 40, 41, 32, 123, 32, 102, 40, 120, 41, 32, 61, 32, 49, 59, 32, 125, 32, 125]⟩
def awD : Desc := ⟨(⟨#[100]⟩ : ByteArray), [⟨(⟨#[84]⟩ : ByteArray), [⟨(⟨#[102]⟩ : ByteArray), (⟨#[105, 110, 116]⟩ : ByteArray)⟩]⟩], [], [⟨(⟨#[112]⟩ : ByteArray), [⟨(⟨#[120]⟩ : ByteArray), (⟨#[84]⟩ : ByteArray)⟩], (⟨#[]⟩ : ByteArray), [], [.mk 2 (⟨#[102]⟩ : ByteArray) [nmE (⟨#[120]⟩ : ByteArray), .mk 1 1 (⟨#[]⟩ : ByteArray) []] [] []]⟩], [], [], [], []⟩
theorem ax4_eq : descTop ax4 = (awD, (0, 0), 0) := by kernel_rfl
theorem ax5_eq : descTop ax5 = (D0, (1, 26), 7) := by kernel_rfl
theorem aw_v (s : Str) : FnOK Tryz.prog 24 [Sr s] [] (enE (nmE s)) [] := by
  refine fn_ok T Tryz.func24 (by kernel_rfl) rfl rfl rfl rfl fun C hC => ?_
  repeat' first | refine g_go T hC true 400 rfl rfl ?_ | refine g_cond rfl (fun h => ?_) (fun h => ?_) | refine g_retl T (.inl rfl) rfl ?_
  exact g_fin ⟨.inl rfl, id, _, rfl, le_ex0 _ _ _, trivial, rfl, rfl⟩
theorem aw_two (op : Int) (a b : Ex) : FnOK Tryz.prog 25 [I op, enE a, enE b] [] (enE (twE op a b)) [] := by
  refine fn_ok T Tryz.func25 (by kernel_rfl) rfl rfl rfl rfl fun C hC => ?_
  repeat' first | refine g_go T hC true 400 rfl rfl ?_ | refine g_cond rfl (fun h => ?_) (fun h => ?_) | refine g_lit T hC (rows := [exprR a, exprR b]) rfl rfl rfl (by simp only [exprR_eq]; rfl) rfl rfl rfl rfl rfl ?_ | refine g_retl T (.inl rfl) rfl ?_
  exact g_fin ⟨.inl rfl, id, _, rfl, .refl _, trivial, rfl, rfl⟩
theorem aw_same (x : Ex) (h : sameE x x = true) : FnOK Tryz.prog 16 [enE x, enE x] [] (Bo true) [] := fnSub (rsameExpr_ok (sizeOf x + 1) x x (Nat.lt_succ_self _)) (.bq h)
theorem awake10_ok : FnOK Tryz.prog 7 [] [] (.bq true) [] := by
  have h1 := parserExpr_ok ax1 (by decide)
  have h2 := parserExpr_ok ax2 (by decide)
  have h3 := parserExpr_ok ax3 (by decide)
  have h4 := parserParse_ok ax4 (by decide)
  have h5 := parserParse_ok ax5 (by decide)
  rw [ax1_eq] at h1
  rw [ax2_eq] at h2
  rw [ax3_eq] at h3
  rw [ax4_eq] at h4
  rw [ax5_eq] at h5
  unfold ax1 at h1
  unfold ax2 at h2
  unfold ax3 at h3
  unfold ax4 at h4
  unfold ax5 at h5
  refine fn_ok T Tryz.func7 (by kernel_rfl) rfl rfl rfl rfl fun C hC => ?_
  have s1 := aw_same awX (by decide +kernel)
  have s2 := aw_same awY (by decide +kernel)
  repeat' first | refine g_go T hC true 400 rfl rfl ?_ | (exfalso; revert h; decide) | refine g_cond rfl (fun h => ?_) (fun h => ?_) | refine g_end T hC (by kernel_rfl) ?_ | refine g_splitD (fun h => ?_) (fun h => ?_) | refine g_call hC (h1) rfl rfl (LeSs.refl _) rfl rfl rfl ?_ | refine g_call hC (h2) rfl rfl (LeSs.refl _) rfl rfl rfl ?_ | refine g_call hC (h3) rfl rfl (LeSs.refl _) rfl rfl rfl ?_ | refine g_call hC (h4) rfl rfl (LeSs.refl _) rfl rfl rfl ?_ | refine g_call hC (h5) rfl rfl (LeSs.refl _) rfl rfl rfl ?_ | refine g_call hC ((aw_v _)) rfl rfl (LeSs.refl _) rfl rfl rfl ?_ | refine g_call hC ((aw_two _ _ _)) rfl rfl (LeSs.refl _) rfl rfl rfl ?_ | refine g_call hC (s1) rfl rfl (LeSs.refl _) rfl rfl rfl ?_ | refine g_call hC (s2) rfl rfl (LeSs.refl _) rfl rfl rfl ?_ | refine g_lit T hC (rows := [exprR (twE 14 (nmE (⟨#[97]⟩ : ByteArray)) (nmE (⟨#[98]⟩ : ByteArray)))]) rfl rfl rfl (by simp only [exprR_eq]; rfl) rfl rfl rfl rfl rfl ?_ | (refine g_eqF hC [.i .i64, .i .i64] [.i .i64 1, .i .i64 7] [.i .i64 1, .i .i64 7] rfl rfl (by kernel_rfl) (by kernel_rfl) rfl rfl (by kernel_rfl) rfl rfl ?_) | (refine g_eqF hC [.i .i64, .i .i64] [.i .i64 1, .i .i64 26] [.i .i64 1, .i .i64 26] rfl rfl (by kernel_rfl) (by kernel_rfl) rfl rfl (by kernel_rfl) rfl rfl ?_) | refine g_idx T hC rfl rfl rfl (Int.le_refl _) (show _ = some (procR _) from rfl) rfl rfl ?_ | refine g_idx T hC (row := stmtC (.mk 2 (⟨#[102]⟩ : ByteArray) [nmE (⟨#[120]⟩ : ByteArray), .mk 1 1 (⟨#[]⟩ : ByteArray) []] [] [])) rfl rfl rfl (Int.le_refl _) (map_atS (l := [.mk 2 (⟨#[102]⟩ : ByteArray) [nmE (⟨#[120]⟩ : ByteArray), .mk 1 1 (⟨#[]⟩ : ByteArray) []] [] []]) (i := 0) rfl) rfl rfl ?_ | refine g_retl T (.inl rfl) rfl ?_ | refine g_retq T (.inl rfl) rfl ?_
  all_goals exact decide_eq_true rfl
end Hw.Pa
